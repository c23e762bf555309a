/- Bytes that are read, in a block of their own; slices of slices of bytes. No statement of the program. ; Contracts of the small functions on byte slices: rescriptref01.Same, rescriptref01.Join, bytes.Clone, bytes.Equal. -/
import Derived.Test.YtbjoohafgkodcaaGreatKit
import Derived.Test.YtbjoohafgkodcaaGreatRows
namespace Go.Proofs.YtbjoohafgkodcaaGreat
open Go Go.RowKit Go.Shelf

/-- bytes as cells -/
def bv (l : List UInt8) : List Value := l.map fun x => .int .u8 (x.toNat : Int)
@[simp] theorem bv_length (l : List UInt8) : (bv l).length = l.length := by simp [bv]
theorem bv_get (l : List UInt8) (j : Nat) (h : j < l.length) : (bv l)[j]? = some (.int .u8 (l[j].toNat : Int)) := by simp [bv, h]
theorem bv_append (a b : List UInt8) : bv (a ++ b) = bv a ++ bv b := by simp [bv]
theorem bv_one (l : List UInt8) : ∀ u ∈ bv l, u.oneCell' = true := by
  intro u hu; obtain ⟨_, _, rfl⟩ := List.mem_map.1 hu; rfl
theorem u8lt (x : UInt8) : (x.toNat : Int) < 256 := by have := x.toNat_lt; omega

/-- the slice value reads as these bytes -/
abbrev Bs (w : World) (v : Value) (l : List UInt8) : Prop := Sl w v l.length 1 (bv l)
/-- a row of bytes of the call's own -/
abbrev OwnB (w : World) (base : Nat) (v : Value) (l : List UInt8) : Prop := w.ownsRow base 5 1 v l.length (bv l)

theorem bs_take {w : World} {a : Option Addr} {c : Nat} {l : List UInt8} (h : Bs w (.slice a l.length c) l) (m : Nat) (hm : m ≤ l.length) : Bs w (.slice a m c) (l.take m) := by
  have := Sl.take h m hm
  unfold Bs
  rw [List.length_take, Nat.min_eq_left hm]
  rw [Nat.mul_one] at this
  have e : (bv l).take m = bv (l.take m) := by simp [bv]
  rw [← e]; exact this
theorem info_u8 : (Tryz.prog.info? 5).map (fun i => (i.zero, i.size, i.bytes)) = some (some (.int .u8 0), 1, 1) := by kernel_rfl

theorem u8_ne (x y : UInt8) : ((x.toNat : Int) != (y.toNat : Int)) = (x != y) := by
  by_cases h : x = y
  · subst h; simp
  · have h' : x.toNat ≠ y.toNat := fun e => h (UInt8.toNat_inj.1 e)
    have h2 : ¬ ((x.toNat : Int) = (y.toNat : Int)) := by omega
    rw [bne_iff_ne.2 h, bne_iff_ne.2 h2]


theorem take_succ_eq {α : Type} [BEq α] [LawfulBEq α] (a b : List α) (k : Nat) (ha : k < a.length) (hb : k < b.length) (h : a.take k = b.take k) (e : a[k] = b[k]) : a.take (k + 1) = b.take (k + 1) := by
  rw [List.take_succ_eq_append_getElem ha, List.take_succ_eq_append_getElem hb, h, e]
theorem ne_of_get {α : Type} [DecidableEq α] (a b : List α) (k : Nat) (ha : k < a.length) (hb : k < b.length) (h : a[k] ≠ b[k]) : (a == b) = false := by
  rw [beq_eq_false_iff_ne]; intro e; subst e; exact h rfl
theorem ne_of_len {α : Type} [DecidableEq α] (a b : List α) (h : a.length ≠ b.length) : (a == b) = false := by
  rw [beq_eq_false_iff_ne]; intro e; subst e; exact h rfl


/-- a literal of bytes, as the walk lays it -/
theorem bs_lit (w : World) (l : List UInt8) (cs : Array Value) (n : Nat) (hn : l.length = n) (h : (bv l).toArray = cs) (hm : n ≤ 1000000000) (fr : Nat × Nat := (0, 0)) : Bs (w.alloc (.cells cs 5 fr)) (.slice (some ⟨w.heap.size, 0, none⟩) n n) l := by
  subst hn
  subst h
  have := Sl.lit w 5 fr (bv l).toArray l.length 1 (by simp) (by unfold maxLen; omega)
  exact this
theorem bs_len {w : World} {v : Value} {l : List UInt8} (h : Bs w v l) : ∃ a c, v = .slice a l.length c := by
  obtain ⟨a, c, h, _⟩ := h.open
  exact ⟨a, c, h⟩

set_option maxHeartbeats 400000 in
theorem same_any (a b : List UInt8) (va vb : Value) (w : World) (ha : Bs w va a) (hb : Bs w vb b) :
    Calls Tryz.prog 18 #[va, vb] w fun e w' => e = .returned (.bool (a == b)) ∧ Drew w w' := by
  obtain ⟨aa, ca, rfl, a1, a2, -, ah⟩ := ha.open
  obtain ⟨ab, cb, rfl, b1, b2, -, bh⟩ := hb.open
  unfold maxLen at a2 b2
  by_cases hlen : a.length = b.length
  · have hl1 : ((a.length : Int) != (b.length : Int)) = false := by simp [hlen]
    have hl2 : b.length ≤ a.length ∧ a.length ≤ b.length := by omega
    have HL := Lib.hid hlen
    clear hlen
    go_enter Tryz.func18, Tryz.ntmps18
    go_wp2
    go_loopw [5] (fun i wr => (∃ k : Nat, k ≤ a.length ∧ i = .int .i64 k ∧ a.take k = b.take k) ∧ Drew w wr) (fun i _ => a.length - (intOf i).toNat)
    case atStart => exact ⟨⟨0, Nat.zero_le _, rfl, rfl⟩, 0, rfl⟩
    case round =>
      obtain ⟨⟨k, hk, rfl, htk⟩, n, rfl⟩ := hrel
      by_cases hlt : k < a.length
      · obtain ⟨b1, o1, rfl, h1⟩ := ah (by omega)
        obtain ⟨b2, o2, rfl, h2⟩ := bh (by omega)
        have c1 := h1 k _ (bv_get a k hlt)
        have c2 := h2 k _ (bv_get b k (by omega))
        have hn := u8_ne a[k] b[k]
        clear h1 h2 ah bh
        have HT := Lib.hid htk
        clear htk
        go_wp2
        go_quiet (fail)
        go_wp2
        · rename_i hne
          go_ret
          exact ⟨ret_bool (ne_of_get a b k hlt (by omega) (by simpa using hne)).symm, Drew.more ⟨_, rfl⟩ _⟩
        · rename_i hne
          go_roundw
          case rel => exact ⟨⟨k + 1, by omega, by go_num, take_succ_eq a b k hlt (by omega) HT.out (by simpa using hne)⟩, ⟨_, rfl⟩⟩
          case measure => simp [intOf]; omega
      · obtain rfl : k = a.length := by omega
        have HT := Lib.hid htk
        clear htk
        go_wp2
        go_ret
        have : a = b := by have h := HT.out; rwa [List.take_length, List.take_of_length_le (by omega)] at h
        exact ⟨ret_bool (by subst this; simp), _, rfl⟩
  · have hl1 : ((a.length : Int) != (b.length : Int)) = true := by simp; omega
    have HL := Lib.hid hlen
    clear hlen ah bh
    go_enter Tryz.func18, Tryz.ntmps18
    go_wp2
    go_ret
    exact ⟨ret_bool (ne_of_len a b HL.out).symm, 0, rfl⟩

/-- one byte more, from a new block -/
theorem wpList_push {W : World} {ops : Array Oper} {rest : List Oper} {o : Oper} {a : Act} {Q : Exit → Act → World → Prop} (hgd : o.guard = none) (s x : Operand)
    (ho : o.op = .call { callee := .builtin .append, args := #[s, x], argTypes := #[22, 22] })
    (base : Nat) (v : Value) (l : List UInt8) (hs : a.eval s = v) (hown : OwnB W base v l) (xv : Value) (hx : a.eval x = xv) (m : List UInt8) (hsl : Bs W xv m)
    (hlen : l.length + m.length ≤ 140737488355328) (hbase : base ≤ W.heap.size)
    (h : ∀ v' w', OwnB w' base v' (l ++ m) → Below base W w' → W.grownBy w' v.ownBlock → wpList Tryz.prog ops Q rest (a.put o.dst v') w') : wpList Tryz.prog ops Q (o :: rest) a W := by
  obtain ⟨i0, hi, hz0, hz1, hz2⟩ := info_parts info_u8
  exact wpList_app hgd s x 22 ho base 5 i0 (.int .u8 0) 1 1 Tryz.underlying22 hi hz0 hz1 hz2 rfl (by decide) v l.length (bv l) hs hown xv m.length (bv m) hx hsl (bv_one m) (by unfold maxLen; omega) (by omega) hbase
    fun v' w' h1 h2 => h v' w' (by rw [OwnB, bv_append, List.length_append]; exact h1) (grownBy_below h2 hown hbase) h2

/-- .. within a fence -/
theorem wpListIn_push {F : Fence} {n : Nat} {W : World} {ops : Array Oper} {rest : List Oper} {o : Oper} {a : Act} {Q : Exit → Act → World → Prop} (hgd : o.guard = none) (s x : Operand)
    (ho : o.op = .call { callee := .builtin .append, args := #[s, x], argTypes := #[22, 22] })
    (base : Nat) (v : Value) (l : List UInt8) (hs : a.eval s = v) (hown : OwnB W base v l) (xv : Value) (hx : a.eval x = xv) (m : List UInt8) (hsl : Bs W xv m)
    (hlen : l.length + m.length ≤ 140737488355328) (hbase : base ≤ W.heap.size)
    (h : ∀ v' w', OwnB w' base v' (l ++ m) → Below base W w' → W.grownBy w' v.ownBlock → wpListIn F n Tryz.prog ops Q rest (a.put o.dst v') w') : wpListIn F n Tryz.prog ops Q (o :: rest) a W := by
  obtain ⟨i0, hi, hz0, hz1, hz2⟩ := info_parts info_u8
  exact wpListIn_app hgd s x 22 ho base 5 i0 (.int .u8 0) 1 1 Tryz.underlying22 hi hz0 hz1 hz2 rfl (by decide) v l.length (bv l) hs hown xv m.length (bv m) hx hsl (bv_one m) (by unfold maxLen; omega) (by omega) hbase
    fun v' w' h1 h2 => h v' w' (by rw [OwnB, bv_append, List.length_append]; exact h1) (grownBy_below h2 hown hbase) h2

theorem ownB_nil (w : World) (base : Nat) : OwnB w base (.slice none 0 0) [] := World.ownsRow_nil _ _ _ _

set_option maxHeartbeats 1000000 in
theorem join_any (a b : List UInt8) (va vb : Value) (w : World) (ha : Bs w va a) (hb : Bs w vb b) (hlen : a.length + b.length ≤ 140737488355328) :
    Calls Tryz.prog 38 #[va, vb] w fun e w' => ∃ v, e = .returned v ∧ OwnB w' w.heap.size v (a ++ b) ∧ Grew w w' := by
  obtain ⟨aa, ca, rfl, a1, a2, -, ah⟩ := ha.open
  obtain ⟨ab, cb, rfl, b1, b2, -, bh⟩ := hb.open
  go_enter Tryz.func38, Tryz.ntmps38
  go_wp2
  go_loopw [5, 6] (fun v i wr => ∃ k : Nat, k ≤ a.length ∧ i = .int .i64 k ∧ OwnB wr w.heap.size v (a.take k) ∧ Grew w wr) (fun _ i _ => a.length - (intOf i).toNat)
  case atStart => exact ⟨0, Nat.zero_le _, rfl, ownB_nil _ _, Below.refl _ _⟩
  case round =>
    obtain ⟨k, hk, rfl, hown, hB⟩ := hrel
    by_cases hlt : k < a.length
    · obtain ⟨b1, o1, rfl, h1⟩ := ah (by omega)
      have c1 := (below_ext hB) _ _ (h1 k _ (bv_get a k hlt))
      clear h1 ah bh
      go_wp2_with (at_builtin; refine wpList_push rfl _ _ rfl w.heap.size _ _ rfl (own_grew hown ((Below.refl _ _).alloc (Nat.le_refl _) _)) _ rfl [a[k]] (Sl.one _ _ _ rfl) (by simp; omega) (by have := hB.size; simp; omega) ?_; intro v' w1 hown1 hB1 _)
      go_roundw
      case rel => exact ⟨k + 1, by omega, by go_num, by rw [List.take_succ_eq_append_getElem hlt]; exact hown1, (hB.alloc hB.size _).trans hB1⟩
      case measure => simp [intOf]; omega
    · obtain rfl : k = a.length := by omega
      rw [List.take_length] at hown
      clear ah
      go_wp2
      go_loopw [5, 7] (fun v i wr => ∃ k : Nat, k ≤ b.length ∧ i = .int .i64 k ∧ OwnB wr w.heap.size v (a ++ b.take k) ∧ Grew w wr) (fun _ i _ => b.length - (intOf i).toNat)
      case atStart => exact ⟨0, Nat.zero_le _, rfl, by simpa using hown, hB⟩
      case round =>
        obtain ⟨k, hk, rfl, hown, hB⟩ := hrel
        by_cases hlt : k < b.length
        · obtain ⟨b1, o1, rfl, h1⟩ := bh (by omega)
          have c1 := (below_ext hB) _ _ (h1 k _ (bv_get b k hlt))
          clear h1 bh
          go_wp2_with (at_builtin; refine wpList_push rfl _ _ rfl w.heap.size _ _ rfl (own_grew hown ((Below.refl _ _).alloc (Nat.le_refl _) _)) _ rfl [b[k]] (Sl.one _ _ _ rfl) (by simp; omega) (by have := hB.size; simp; omega) ?_; intro v' w1 hown1 hB1 _)
          go_roundw
          case rel => exact ⟨k + 1, by omega, by go_num, by rw [List.take_succ_eq_append_getElem hlt, ← List.append_assoc]; exact hown1, (hB.alloc hB.size _).trans hB1⟩
          case measure => simp [intOf]; omega
        · obtain rfl : k = b.length := by omega
          rw [List.take_length] at hown
          go_wp2
          go_ret
          exact ⟨_, rfl, hown, hB⟩

/-- bytes.Clone: nil for nil, else a row of its own -/
theorem clone_any (a : List UInt8) (va : Value) (w : World) (ha : Bs w va a) (hlen : a.length ≤ 140737488355328) :
    Calls Tryz.prog 77 #[va] w fun e w' => ∃ v, e = .returned v ∧ OwnB w' w.heap.size v a ∧ Grew w w' := by
  have he := fun (w : World) (a : Option Addr) (n c : Nat) => Lib.run_eql_slice_nil (P := Tryz.prog) w 22 5 a n c 0 0 Tryz.underlying22
  rcases ha.shape with ⟨rfl, h0, h1⟩ | ⟨ad, cap, rfl, h1, h2, h3, h4⟩
  · obtain rfl : a = [] := List.eq_nil_of_length_eq_zero h0
    go_enter Tryz.func77, Tryz.ntmps77
    go_wp2
    go_ret
    exact ⟨_, rfl, ownB_nil _ _, Below.refl _ _⟩
  · clear h4
    go_enter Tryz.func77, Tryz.ntmps77
    go_wp2_with (at_builtin; refine wpList_push rfl _ _ rfl w.heap.size _ [] rfl (World.ownsRow_lit _ #[] 0 (Nat.le_refl _) (Nat.zero_le _) rfl) _ rfl a (ha.grew ((Below.refl _ _).alloc (Nat.le_refl _) _)) (by simp; omega) (by simp) ?_; intro v' w1 hown1 hB1 _)
    go_ret
    exact ⟨_, rfl, hown1, ((Below.refl _ _).alloc (Nat.le_refl _) _).trans hB1⟩

/-- the text of bytes -/
abbrev str (l : List UInt8) : Value := .string ⟨l.toArray⟩
theorem foldl_push (l : List UInt8) (s : ByteArray) : (l.map fun x => (x.toNat : Int)).foldl (fun r n => r.push (UInt8.ofNat n.toNat)) s = ⟨s.data ++ l.toArray⟩ := by
  induction l generalizing s with
  | nil => simp
  | cons x l ih =>
    simp only [List.map_cons, List.foldl_cons]
    rw [ih]
    simp [ByteArray.push]
theorem conv_bs (l : List UInt8) (v : Value) (w : World) (h : Bs w v l) : (convert 22 9 v).run Tryz.prog w = .ok (str l) w := by
  rcases h.shape with ⟨rfl, h0, h1⟩ | ⟨ad, cap, rfl, h1, h2, h3, h4⟩
  · obtain rfl : l = [] := List.eq_nil_of_length_eq_zero h0
    rw [run_convert_bytes_string w _ _ _ _ _ _ Tryz.underlying22 Tryz.underlying5 Tryz.underlying9]
    simp [Conv.bytesToString, Sem.run_pure, str]
    rfl
  · rw [run_convert_bytes_string w _ _ _ _ _ _ Tryz.underlying22 Tryz.underlying5 Tryz.underlying9]
    have e : bv l = (l.map fun x => (x.toNat : Int)).map (Value.int .u8) := by simp [bv]
    have hl := run_loadCells_list (P := Tryz.prog) (w := w) ad (bv l) h4
    rw [bv_length] at hl
    rw [run_bytesToString w _ _ _ (l.map fun x => (x.toNat : Int)) (by rw [hl, e])]
    rw [foldl_push]
    simp [str]
theorem toList_mk (l : List UInt8) : (ByteArray.mk l.toArray).toList = l := by
  rw [ByteArray.toList_eq]

theorem equal_any (a b : List UInt8) (va vb : Value) (w : World) (ha : Bs w va a) (hb : Bs w vb b) :
    Calls Tryz.prog 78 #[va, vb] w fun e w' => e = .returned (.bool (a == b)) ∧ w = w' := by
  have e1 := conv_bs a va w ha
  have e2 := conv_bs b vb w hb
  have e3 := toList_mk a
  have e4 := toList_mk b
  obtain ⟨aa, ca, rfl, -⟩ := ha.open
  obtain ⟨ab, cb, rfl, -⟩ := hb.open
  clear ha hb
  go_enter Tryz.func78, Tryz.ntmps78
  go_wp2
  go_ret
  exact ⟨rfl, rfl⟩

end Go.Proofs.YtbjoohafgkodcaaGreat
namespace Go.Proofs.YtbjoohafgkodcaaGreat
open Go Go.RowKit Go.Shelf

/-- a slice value, its length a number of its own -/
theorem bs_shape {w : World} {v : Value} {l : List UInt8} (h : Bs w v l) : ∃ a n c, v = .slice a n c ∧ RowKit.Hid (n = l.length) := by
  obtain ⟨a, c, h⟩ := bs_len h
  exact ⟨a, _, c, h, Lib.hid rfl⟩

/-- bytes that are read, in a block of bytes that is not below base -/
def PayV (w : World) (base : Nat) (v : Value) (l : List UInt8) : Prop := Bs w v l ∧ ∀ g, Value.blk v = some g → base ≤ g ∧ ∃ cs, Blk w g 5 cs
theorem PayV.bs {w : World} {base : Nat} {v : Value} {l : List UInt8} (h : PayV w base v l) : Bs w v l := h.1
theorem PayV.mono {w : World} {base base' : Nat} {v : Value} {l : List UInt8} (h : PayV w base v l) (hb : base' ≤ base) : PayV w base' v l := ⟨h.1, fun g hg => ⟨by have := (h.2 g hg).1; omega, (h.2 g hg).2⟩⟩
theorem PayV.grew {w w' : World} {base : Nat} {v : Value} {l : List UInt8} (h : PayV w base v l) (hg : Grew w w') : PayV w' base v l :=
  ⟨h.1.grew hg, fun g e => ⟨(h.2 g e).1, by obtain ⟨cs, hc⟩ := (h.2 g e).2; exact ⟨cs, hc.grew hg⟩⟩⟩
theorem PayV.nil (w : World) (base : Nat) : PayV w base (.slice none 0 0) [] := ⟨Sl.nil w 1, fun g h => by cases h⟩
theorem PayV.of_own {w : World} {base : Nat} {v : Value} {l : List UInt8} (h : OwnB w base v l) : PayV w base v l := by
  refine ⟨Sl.of_own h, fun g hg => ?_⟩
  rcases h.2 with ⟨rfl, _⟩ | ⟨g', cap, cur, rfl, hb, hh, _⟩
  · cases hg
  · cases hg; exact ⟨hb, cur, hh⟩
/-- other blocks may turn -/
theorem PayV.fr {S : Nat → Prop} {w w' : World} {base : Nat} {v : Value} {l : List UInt8} (h : PayV w base v l) (hf : Fr S w w') (hs : ∀ g, Value.blk v = some g → ¬ S g) : PayV w' base v l :=
  ⟨h.1.fr hf fun g hg _ => hs g hg, fun g e => ⟨(h.2 g e).1, by obtain ⟨cs, hc⟩ := (h.2 g e).2; exact ⟨cs, hc.fr hf (hs g e)⟩⟩⟩
/-- v[m:] -/
theorem bs_drop {w : World} {b off : Nat} {n c : Nat} {l : List UInt8} (h : Bs w (.slice (some ⟨b, off, none⟩) n c) l) (m : Nat) (hm : m ≤ n) : Bs w (.slice (some ⟨b, off + m, none⟩) (n - m) (c - m)) (l.drop m) := by
  obtain ⟨hl, a, c', e, h1, h2, h3, h4⟩ := h
  cases e
  refine ⟨by simp, some ⟨b, off + m, none⟩, c - m, ?_, by simp; omega, by omega, (fun h => by cases h), ?_⟩
  · rw [List.length_drop]
  · rintro ad had j u hu
    cases had
    have := h4 _ rfl (m + j) u (by rw [← hu]; simp [bv, List.getElem?_drop])
    rw [Addr.add_lit] at this ⊢
    rwa [show off + m + j = off + (m + j) by omega]
/-- v[i:j] -/
theorem bs_cut {w : World} {b off : Nat} {n c : Nat} {l : List UInt8} (h : Bs w (.slice (some ⟨b, off, none⟩) n c) l) (i j : Nat) (hij : i ≤ j) (hj : j ≤ n) : Bs w (.slice (some ⟨b, off + i, none⟩) (j - i) (c - i)) ((l.drop i).take (j - i)) := by
  have hn : n = l.length := by obtain ⟨_, _, _, e, _⟩ := h; cases e; rfl
  have h1 := bs_drop h i (by omega)
  have e : n - i = (l.drop i).length := by rw [List.length_drop]; omega
  rw [e] at h1
  exact bs_take h1 (j - i) (by rw [← e]; omega)
/-- .. as the model spells it: at the end of the array the pointer stays -/
theorem bs_dropI {w : World} {b off : Nat} {n c : Nat} {l : List UInt8} (h : Bs w (.slice (some ⟨b, off, none⟩) n c) l) (m : Nat) (hm : m ≤ n) : Bs w (.slice (if c = m then some ⟨b, off, none⟩ else some ⟨b, off + m, none⟩) (n - m) (c - m)) (l.drop m) := by
  by_cases e : c = m
  · rw [if_pos e]
    obtain ⟨hl, a, c', e', h1, h2, h3, h4⟩ := h
    cases e'
    have hd : l.drop m = [] := List.drop_eq_nil_of_le (by omega)
    rw [hd]
    refine ⟨rfl, some ⟨b, off, none⟩, c - m, ?_, by simp, by omega, (fun h => by cases h), ?_⟩
    · rw [show l.length - m = ([] : List UInt8).length by simp; omega]
    · rintro ad had j u hu; cases hu
  · rw [if_neg e]; exact bs_drop h m hm
theorem blk_type {w : World} {b : Nat} {t t' : TypeId} {cs cs' : Array Value} (h : Blk w b t cs) (k : Blk w b t' cs') : t = t' := by
  have := (show w.heap[b]? = _ from h).symm.trans k
  simp at this; exact this.2
theorem PayV.ne {w : World} {base : Nat} {v : Value} {l : List UInt8} (h : PayV w base v l) {b : Nat} {t : TypeId} {cs : Array Value} (hb : Blk w b t cs) (ht : t ≠ 5) : ∀ g, Value.blk v = some g → g ≠ b := by
  rintro g hg rfl
  obtain ⟨_, cs, hc⟩ := h.2 g hg
  exact ht (blk_type hb hc)
theorem PayV.shape {W : World} {base : Nat} {v : Value} {l : List UInt8} (h : PayV W base v l) : ∃ a n c, v = .slice a n c ∧ RowKit.Hid (n = l.length) := bs_shape h.1
theorem PayV.below {W W' : World} {base : Nat} {v : Value} {l : List UInt8} (h : PayV W base v l) {row : Option Nat} (hg : W.grownBy W' row) (hs : ∀ g, Value.blk v = some g → some g ≠ row) : PayV W' base v l :=
  h.fr (S := fun k => row = some k) (Fr.of_grown hg fun _ e => e) fun g hg e => hs g hg e.symm
theorem row_ne {W : World} {base : Nat} {e : TypeId} {size : Nat} {v : Value} {n : Nat} {xs : List Value} (h : W.ownsRow base e size v n xs) (he : e ≠ 5) {base' : Nat} {u : Value} {l : List UInt8} (hp : PayV W base' u l) : ∀ g, Value.blk u = some g → some g ≠ v.ownBlock := by
  intro g hg e'
  rcases h.2 with ⟨rfl, _⟩ | ⟨g', cap, cur, rfl, _, hgb, _⟩
  · cases e'
  · obtain rfl : g = g' := by simpa [Value.ownBlock] using e'
    obtain ⟨_, cs, hc⟩ := hp.2 g hg
    exact he (blk_type hgb hc)
theorem PayV.ck {n base : Nat} {W W' : World} {v : Value} {l : List UInt8} (h : PayV W base v l) (hc : CK n W W') : PayV W' base v l :=
  ⟨h.1.ext hc.ext, fun g e => ⟨(h.2 g e).1, by obtain ⟨cs, hb⟩ := (h.2 g e).2; exact ⟨cs, hc.blk hb⟩⟩⟩
/-- a cell of another kind is set -/
theorem PayV.set {W : World} {base : Nat} {v : Value} {l : List UInt8} (h : PayV W base v l) {b : Nat} {t : TypeId} {cs : Array Value} (hb : Blk W b t cs) (ht : t ≠ 5) (j : Nat) (u : Value) : PayV (W.setCell ⟨b, j, none⟩ u) base v l :=
  h.fr ((Fr.refl (· = b) W).set b j u (fun _ => rfl)) (h.ne hb ht)
/-- a scope without a jump, at the wide fence -/
theorem wpIn_scope_wide {n : Nat} {P : Program} {Q : Exit → Act → World → Prop} {a : Act} {w : World} {c : Code} (h : c.wpIn Fence.wide n P (Exit.noGoto Q) a w) : (Code.scope c).wpIn Fence.wide n P Q a w := wpIn_wide.2 (wp_scope_straight (wpIn_wide.1 h))
/-- a cell of a row whose elements have k cells each -/
theorem flat_at {α : Type} {f : α → List Value} {k : Nat} (hf : ∀ x, (f x).length = k) : ∀ (l : List α) (j : Nat) (hj : j < l.length) (i : Nat), i < k → (l.flatMap f)[j * k + i]? = (f l[j])[i]?
  | x :: l, 0, _, i, hi => by
    rw [Nat.zero_mul, Nat.zero_add, List.flatMap_cons, List.getElem?_append_left (by rw [hf]; exact hi)]; rfl
  | x :: l, j + 1, hj, i, hi => by
    rw [List.flatMap_cons, List.getElem?_append_right (by rw [hf, Nat.add_mul]; omega), hf, show (j + 1) * k + i - k = j * k + i by rw [Nat.add_mul]; omega, flat_at hf l j (by simpa using hj) i hi]; rfl
  | [], _, hj, _, _ => by simp at hj
theorem ne_getB {α : Type} [BEq α] [LawfulBEq α] (a b : List α) (k : Nat) (ha : k < a.length) (hb : k < b.length) (h : a[k] ≠ b[k]) : (a == b) = false := by
  rw [beq_eq_false_iff_ne]; intro e; subst e; exact h rfl
theorem ne_lenB {α : Type} [BEq α] [LawfulBEq α] (a b : List α) (h : a.length ≠ b.length) : (a == b) = false := by
  rw [beq_eq_false_iff_ne]; intro e; subst e; exact h rfl
theorem i64_ne (a b : Nat) : ((a : Int) != (b : Int)) = !(a == b) := by
  by_cases h : a = b
  · subst h; simp
  · have h2 : ¬ ((a : Int) = (b : Int)) := by omega
    rw [bne_iff_ne.2 h2, beq_eq_false_iff_ne.2 h]; rfl
end Go.Proofs.YtbjoohafgkodcaaGreat
