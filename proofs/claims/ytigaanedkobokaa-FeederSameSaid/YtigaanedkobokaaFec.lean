/- The law FeederSame returns true: its walk. -/
import Derived.Test.YtigaanedkobokaaFe8
namespace Go.Proofs.Ytigaanedkobokaa
open Go Go.RowKit Go.Shelf

theorem walk_count (ended : Bool) (l : List UInt8) (k : Nat) : (walkL ended l k).1.length ≤ l.length := by
  refine walk_ind (ended := ended) (C := fun l k => (walkL ended l k).1.length ≤ l.length) ?_ ?_ ?_ ?_ l k
  · intro k; simp [walkL_nil]
  · intro l k h ih
    have hz := (ferr_zero h).1
    rw [walkL_ok k h, List.length_cons]
    rw [List.length_drop] at ih
    omega
  · intro l k hl h he
    subst he
    rw [walkL_short k h]; simp
  · intro l k hl h h4 ih
    rw [walkL_pass k hl h h4]
    rw [List.length_drop] at ih
    show (walkL ended (l.drop 1) (k + 1)).1.length ≤ _
    omega
/-- v[i:j], wherever v lies -/
theorem bs_cutA {w : World} {a : Option Addr} {n c : Nat} {l : List UInt8} (h : Bs w (.slice a n c) l) (i j : Nat) (hij : i ≤ j) (hj : j ≤ n) : Bs w (.slice (if c = i then a else a.map fun x => x.add i) (j - i) (c - i)) ((l.drop i).take (j - i)) := by
  have hn : n = l.length := by obtain ⟨_, _, _, e, _⟩ := h; cases e; rfl
  obtain ⟨a', c', e, h1, h2, h3, h4⟩ := h.open
  cases e
  by_cases hl : l.length = 0
  · have : l = [] := List.eq_nil_of_length_eq_zero hl
    subst this
    have h0 : i = 0 := by simp at hn; omega
    have h0' : j = 0 := by simp at hn; omega
    subst h0 h0'
    cases a with
    | none =>
      have : (if c = 0 then none else Option.map (fun x => Addr.add x 0) none) = (none : Option Addr) := by split <;> rfl
      rw [this]; exact h
    | some ad =>
      have hq : ∃ ad', (if c = 0 then some ad else Option.map (fun x => Addr.add x 0) (some ad)) = some ad' := by split <;> exact ⟨_, rfl⟩
      obtain ⟨ad', hq⟩ := hq
      rw [hq]
      exact ⟨rfl, _, _, rfl, by simp, by unfold maxLen at *; omega, (fun h => by cases h), fun ad e j u hu => by simp [bv] at hu⟩
  · obtain ⟨b, o, rfl, -⟩ := h4 (by omega)
    have hh := bs_cut h i j hij hj
    by_cases e : c = i
    · rw [if_pos e]
      have e1 : j - i = 0 := by omega
      have hd := bs_take (l := l) (a := some ⟨b, o, none⟩) (c := c) (by rw [← hn]; exact h) 0 (Nat.zero_le _)
      rw [e1]
      have hb := hd
      rw [List.take_zero] at hb ⊢
      obtain ⟨q1, q2, q3, q4, q5, q6, q7, q8⟩ := hb
      cases q4
      exact ⟨rfl, _, _, rfl, by simp, by unfold maxLen at *; omega, (fun h => by cases h), fun ad e j u hu => by simp [bv] at hu⟩
    · rw [if_neg e, Option.map_some, Addr.add_lit]; exact hh

theorem FoundsV.frD {S : Nat → Prop} {W W' : World} {base : Nat} {v : Value} {ps : List FV} (h : FoundsV W base v ps) (hf : Fr S W W') (hs : ∀ k, S k → v.ownBlock ≠ some k ∧ ∀ p ∈ ps, Value.blk p.2 ≠ some k) : FoundsV W' base v ps :=
  ⟨own_fr h.1 hf (fun g hg hS => (hs g hS).1 hg), fun p hp => (h.2 p hp).fr hf (fun g hg hS => (hs g hS).2 p hp hg)⟩
theorem FoundsV.cat {W w' : World} {base : Nat} {v v' : Value} {ps qs : List FV} (h : FoundsV W base v ps) (hp : ∀ p ∈ qs, PayV W base p.2 p.1.2.2)
    (h1 : w'.ownsRow base 42 3 v' (ps.length + qs.length) (ps.flatMap fdv ++ qs.flatMap fdv)) (h2 : W.grownBy w' v.ownBlock) : FoundsV w' base v' (ps ++ qs) := by
  refine ⟨by rw [List.length_append, List.flatMap_append]; exact h1, fun q hq => ?_⟩
  rcases List.mem_append.1 hq with hq | hq
  · exact (h.2 q hq).below (n := 0) h2 (row_ne h.1 (by decide) (h.2 q hq))
  · exact (hp q hq).below (n := 0) h2 (row_ne h.1 (by decide) (hp q hq))
theorem fdv_all (ps : List FV) {W : World} {base : Nat} (h : ∀ p ∈ ps, PayV W base p.2 p.1.2.2) : ∀ u ∈ ps.flatMap fdv, u.oneCell' = true := by
  intro u hu
  obtain ⟨p, hp, hu⟩ := List.mem_flatMap.1 hu
  exact fdv_one p (h p hp) u hu
theorem wpList_catF {W : World} {ops : Array Oper} {rest : List Oper} {o : Oper} {a : Act} {Q : Exit → Act → World → Prop} (hgd : o.guard = none) (s x : Operand)
    (ho : o.op = .call { callee := .builtin .append, args := #[s, x], argTypes := #[24, 24] })
    (base : Nat) (v : Value) (ps : List FV) (hs : a.eval s = v) (hown : FoundsV W base v ps) (xv : Value) (hx : a.eval x = xv) (qs : List FV) (hsl : Sl W xv qs.length 3 (qs.flatMap fdv)) (hp : ∀ p ∈ qs, PayV W base p.2 p.1.2.2)
    (hlen : ps.length + qs.length ≤ 1000000000) (hbase : base ≤ W.heap.size)
    (h : ∀ v' w', FoundsV w' base v' (ps ++ qs) → Below base W w' → W.grownBy w' v.ownBlock → (v'.ownBlock = v.ownBlock ∨ v'.ownBlock = some W.heap.size) → wpList Try.prog ops Q rest (a.put o.dst v') w') : wpList Try.prog ops Q (o :: rest) a W := by
  obtain ⟨i0, hi, hz0, hz1, hz2⟩ := info_parts info_found
  rcases hsl.shape with ⟨rfl, h0, h1⟩ | ⟨ad, cap, rfl, _, _, hl, hc⟩
  · obtain rfl : qs = [] := List.eq_nil_of_length_eq_zero h0
    exact wpList_append_own_none hgd s x 24 ho base 42 i0 3 Try.underlying24 hi v _ _ hs hown.1 hx (by simpa using h v W (by simpa using hown) (Below.refl _ _) (World.grownBy.refl _ _) (.inl rfl))
  · refine wpList_plain hgd fun K hK => ?_
    obtain ⟨v', w', hr, h2, h3, _, h5⟩ := run_append_own_at (P := Try.prog) W base 24 o.type 42 i0 (.agg #[.int .i64 0, .int .u8 0, .slice none 0 0]) 3 40 Try.underlying24 hi hz0 hz1 hz2 rfl (by decide) v ps.length (ps.flatMap fdv) hown.1 ad qs.length cap (qs.flatMap fdv) hl hc (fdv_all qs hp) (by unfold maxLen; omega) (by omega) hbase
    unfold Oper.wp execOp
    simp only [ho, resolve, invoke, builtin, Sem.run_bind, Sem.run_pure, Result.andThen_ok, List.map_toArray, List.map_cons, List.map_nil, hs, hx, hr]
    exact hK _ _ (h v' w' (hown.cat hp h2 h3) (grownBy_below h3 hown.1 hbase) h3 h5)

/-- what is told of the first bytes, and lies apart from the feeder's own blocks -/
structure FsI (w1 w5 : World) (pq : Nat) (l : List UInt8) (at_ : Nat) (got : Value) (wr : World) (ps : List FV) (K : List UInt8) (n told : Nat) (F : Nat → Prop) : Prop where
  row : FoundsV wr w5.heap.size got ps
  is : ps.map (·.1) = (walkL false (l.take at_) 0).1
  av : ∀ k, F k → got.ownBlock ≠ some k ∧ ∀ p ∈ ps, Value.blk p.2 ≠ some k
  fd : FdS 77 w1.heap.size F wr pq K n false
  new : ∀ k, F k → k = pq ∨ w5.heap.size ≤ k
  inv : fInv (l.take at_) K n told
  fr : Fr (· = pq) w5 wr
theorem take_piece (l : List UInt8) (i j : Nat) (h : i ≤ j) : l.take i ++ (l.drop i).take (j - i) = l.take j := by
  have := List.take_add (l := l) (i := i) (j := j - i)
  rw [show i + (j - i) = j by omega] at this
  exact this.symm
/-- .. a piece more -/
theorem FsI.next {w1 w5 : World} {pq : Nat} {l : List UInt8} {at_ : Nat} {got : Value} {wr : World} {ps : List FV} {K : List UInt8} {n told : Nat} {F : Nat → Prop} (h : FsI w1 w5 pq l at_ got wr ps K n told F)
    (to : Nat) (hlo : at_ ≤ to) {vr : Value} {W1 : World} (hq : FdQ 77 w1.heap.size F pq (fdK K ((l.drop at_).take (to - at_)) false) (fdN K ((l.drop at_).take (to - at_)) n false) false vr (fdOut K ((l.drop at_).take (to - at_)) n false) wr W1) :
    ∃ qs : List FV, FoundsV W1 w5.heap.size got ps ∧ Sl W1 vr qs.length 3 (qs.flatMap fdv) ∧ (∀ p ∈ qs, PayV W1 w5.heap.size p.2 p.1.2.2) ∧ ps.length + qs.length ≤ to ∧ w5.heap.size ≤ W1.heap.size ∧
      ∀ v' W2, FoundsV W2 w5.heap.size v' (ps ++ qs) → W1.grownBy W2 got.ownBlock → (v'.ownBlock = got.ownBlock ∨ v'.ownBlock = some W1.heap.size) → ∃ ps' K' n' told' F', FsI w1 w5 pq l to v' W2 ps' K' n' told' F' := by
  obtain ⟨F', b, d, f, s, hb, ⟨qs, hqs, r⟩, q⟩ := hq
  obtain ⟨hs1, hs2, hs3⟩ := h.inv.step ((l.drop at_).take (to - at_))
  rw [take_piece l at_ to hlo] at hs1 hs2 hs3
  have hgl : ∀ g, got.ownBlock = some g → w5.heap.size ≤ g ∧ g < wr.heap.size := own_lt h.row.1
  have hpl : ∀ p ∈ ps, ∀ g, Value.blk p.2 = some g → w5.heap.size ≤ g ∧ g < wr.heap.size := by
    intro p hp g hg
    obtain ⟨h1, cs, h2⟩ := (h.row.2 p hp).2 g hg
    exact ⟨h1, h2.lt⟩
  have hsz : w5.heap.size ≤ wr.heap.size := h.fr.size
  have hsz1 : wr.heap.size ≤ W1.heap.size := f.size
  have hmap : (ps ++ qs).map (·.1) = (walkL false (l.take to) 0).1 := by
    rw [List.map_append, h.is, hqs, hs2]
    obtain ⟨-, -, e⟩ := h.inv
    have hw := walk_append ((l.drop at_).take (to - at_)) (l.take at_) 0
    rw [take_piece l at_ to hlo] at hw
    rw [e, hw, List.drop_left]
  refine ⟨qs, h.row.frD f h.av, Sl.of_own r.1, fun p hp => (r.2 p hp).mono (by omega), ?_, by omega, fun v' W2 hv hg ho => ?_⟩
  · have h1 := walk_count false (l.take to) 0
    rw [← hmap, List.length_map, List.length_append, List.length_take] at h1
    omega
  · have hgf : ∀ k, F' k → ¬ got.ownBlock = some k := by
      intro k hk e
      rcases s k hk with h1 | h1
      · exact (h.av k h1).1 e
      · have := (hgl k e).2; omega
    refine ⟨ps ++ qs, _, _, _, F', hv, hmap, fun k hk => ⟨?_, ?_⟩, d.fr (Fr.of_grown hg fun k e => e) (fun k hk e => hgf k hk e), ?_, hs1, ?_⟩
    · rcases ho with e | e
      · rw [e]; exact hgf k hk
      · rw [e]; intro e2; cases e2; have := (d.own _ hk).2; omega
    · intro p hp e
      rcases List.mem_append.1 hp with hp | hp
      · rcases s k hk with h1 | h1
        · exact (h.av k h1).2 p hp e
        · have := (hpl p hp k e).2; omega
      · have := q k hk; have := ((r.2 p hp).2 k e).1; omega
    · intro k hk
      rcases s k hk with h1 | h1
      · exact h.new k h1
      · right; omega
    · have t1 : Fr (· = pq) w5 W1 := h.fr.trans' f (fun i hi hF => by rcases h.new i hF with e | e; exact e; omega)
      exact t1.trans' (Fr.of_grown hg fun k e => e) (fun i hi e => by have := (hgl i e).1; omega)
end Go.Proofs.Ytigaanedkobokaa
