/- The law OutletAll returns true: its walk. -/
import Derived.Test.YtakogncnkbgkfaaOwr
namespace Go.Proofs.Ytakogncnkbgkfaa
open Go Go.RowKit Go.Shelf
attribute [local go_sem] Oper.semAt_some

theorem OutS.not_blk {t t' : TypeId} {base : Nat} {F : Nat → Prop} {w : World} {p m k : Nat} {b : List UInt8} {cs : Array Value} (h : OutS t base F w p b m) (hb : Blk w k t' cs) (h1 : t' ≠ t) (h2 : t' ≠ 5) : ¬ F k := by
  obtain ⟨v, q1, q2, -, -, -, q6⟩ := h
  intro hk
  rcases (q6 k).1 hk with rfl | hk
  · have := (show w.heap[k]? = _ from hb).symm.trans q1
    simp at this
    exact h1 this.2
  · exact blk_ne_row hb q2 h2 hk.symm
theorem OutS.not_row {t : TypeId} {base base' : Nat} {F : Nat → Prop} {w : World} {p m : Nat} {b : List UInt8} {e : TypeId} {size n : Nat} {v : Value} {xs : List Value} (h : OutS t base F w p b m) (hr : w.ownsRow base' e size v n xs) (h1 : t ≠ e) (h2 : 5 ≠ e) : ∀ g, v.ownBlock = some g → ¬ F g := by
  obtain ⟨u, q1, q2, -, -, -, q6⟩ := h
  intro g hg hF
  rcases (q6 g).1 hF with rfl | hk
  · exact blk_ne_row q1 hr h1 hg.symm
  · rcases hr.2 with ⟨rfl, _⟩ | ⟨g', cap, cur, rfl, _, hg', _⟩
    · cases hg
    · obtain rfl : g' = g := by simpa [Value.ownBlock] using hg
      rcases q2.2 with ⟨rfl, _⟩ | ⟨g2, cap2, cur2, rfl, _, hg2, _⟩
      · cases hk
      · obtain rfl : g2 = g' := by simpa [Value.ownBlock] using hk
        rw [hg'] at hg2
        simp at hg2
        exact h2 hg2.2.symm

theorem allGo_snoc (f : Wr) (fs : List Wr) : ∀ b, allGo (fs ++ [f]) b = if (allGo fs b).2 ≠ 0 then allGo fs b else f (allGo fs b).1 := by
  induction fs with
  | nil =>
    intro b
    simp only [List.nil_append, allGo]
    by_cases h : (f b).2 = 0
    · have : f b = ((f b).1, 0) := by rw [← h]
      simp [h, ← this]
    · simp [h]
  | cons g fs ih =>
    intro b
    simp only [List.cons_append, allGo]
    by_cases h : (g b).2 = 0
    · simp [h, ih]
    · simp [h]

/-- the function values over these blocks -/
def fnV (bl : List Nat) : List Value := bl.map fun b => .func (.func 18) #[] #[.pointer (some ⟨b, 0, none⟩)]
theorem fnV_one (bl : List Nat) : ∀ u ∈ fnV bl, u.oneCell' = true := by
  intro u hu; obtain ⟨_, _, rfl⟩ := List.mem_map.1 hu; rfl
theorem info_fn : (Try.prog.info? 45).map (fun i => (i.zero, i.size, i.bytes)) = some (some .nilFunc, 1, 8) := by kernel_rfl
abbrev OwnFn (w : World) (base : Nat) (v : Value) (bl : List Nat) : Prop := w.ownsRow base 45 1 v bl.length (fnV bl)
theorem wpList_pushF {W : World} {ops : Array Oper} {rest : List Oper} {o : Oper} {a : Act} {Q : Exit → Act → World → Prop} (hgd : o.guard = none) (s x : Operand)
    (ho : o.op = .call { callee := .builtin .append, args := #[s, x], argTypes := #[44, 44] })
    (base : Nat) (v : Value) (bl : List Nat) (hs : a.eval s = v) (hown : OwnFn W base v bl) (xv : Value) (hx : a.eval x = xv) (nb : Nat) (hsl : Sl W xv 1 1 (fnV [nb]))
    (hlen : bl.length ≤ 1000000) (hbase : base ≤ W.heap.size)
    (h : ∀ v' w', OwnFn w' base v' (bl ++ [nb]) → Below base W w' → W.grownBy w' v.ownBlock → wpList Try.prog ops Q rest (a.put o.dst v') w') : wpList Try.prog ops Q (o :: rest) a W := by
  obtain ⟨i0, hi, hz0, hz1, hz2⟩ := info_parts info_fn
  exact wpList_app hgd s x 44 ho base 45 i0 .nilFunc 1 8 Try.underlying44 hi hz0 hz1 hz2 rfl (by decide) v bl.length (fnV bl) hs hown xv 1 (fnV [nb]) hx hsl (fnV_one _) (by unfold maxLen; omega) (by omega) hbase
    fun v' w' h1 h2 => h v' w' (by have e : fnV (bl ++ [nb]) = fnV bl ++ fnV [nb] := by simp [fnV]
                                   rw [OwnFn, e, List.length_append]; exact h1) (grownBy_below h2 hown hbase) h2

set_option maxRecDepth 100000 in
theorem all1_any (base : Nat) (F : Nat → Prop) (b : List UInt8) (p m nb : Nat) (a : Ask5) (w : World) (ho : OutO base F w p b m) (ha : a.ok w) (hl : a.B.length ≤ 1000) (hdis : ∀ g, Value.blk a.v = some g → a.B ≠ [] → ¬ F g) (hb : Blk w nb 35 (ask5V a).toArray) :
    Calls Try.prog 18 #[.pointer (some ⟨p, 0, none⟩), .pointer (some ⟨nb, 0, none⟩)] w fun e w' => e = .returned (.int .i64 (askD a m b).2) ∧ OutP 73 base F p (askD a m b).1 m w w' := by
  have kd' := do_any base F b p m a w ho ha hl hdis
  have KD := Lib.hid kd'
  obtain ⟨kd, n, num, wire, vb, B⟩ := a
  obtain ⟨c0, c1, c2, c3, c4⟩ := cells5 hb
  clear kd' hdis ha
  go_enter Try.func18, Try.ntmps18
  go_wp2_with fail
  refine KD.out.mono ?_
  rintro e1 w1 ⟨rfl, h⟩
  have H := Lib.hid h
  clear h
  go_wp2
  go_ret
  exact ⟨rfl, H.out⟩

/-- what the writers of OutletAll find -/
def AllEnv (base0 : Nat) (v : Value) (bl : List Nat) (A : List Ask5) (W : World) (F : Nat → Prop) : Prop :=
  OwnFn W base0 v bl ∧ (∀ (i k : Nat) (a : Ask5), bl[i]? = some k → A[i]? = some a → Blk W k 35 (ask5V a).toArray) ∧ (∀ a ∈ A, a.ok W) ∧ (∀ a ∈ A, ∀ g, Value.blk a.v = some g → a.B ≠ [] → ¬ F g)
theorem Ask5.ok.fr {a : Ask5} {w w' : World} {F : Nat → Prop} (h : a.ok w) (hf : Fr F w w') (hd : ∀ g, Value.blk a.v = some g → a.B ≠ [] → ¬ F g) : a.ok w' :=
  ⟨h.kind, h.n, h.num1, h.num2, h.wire, h.bs.fr hf (fun g hg hc => hd g hg (by intro e; rw [e] at hc; exact hc rfl))⟩
theorem AllEnv.step {base0 base : Nat} {v : Value} {bl : List Nat} {A : List Ask5} {W W' : World} {F F' : Nat → Prop} {p m : Nat} {b : List UInt8} (h : AllEnv base0 v bl A W F) (ho : OutO base F W p b m) (hlen : bl.length = A.length) (hf : Fr F W W') (hn : ∀ k, F' k → F k ∨ W.heap.size ≤ k) : AllEnv base0 v bl A W' F' := by
  obtain ⟨h1, h2, h3, h4⟩ := h
  refine ⟨own_fr h1 hf (ho.not_row h1 (by decide) (by decide)), fun i k a hk ha => (h2 i k a hk ha).fr hf (ho.not_blk (h2 i k a hk ha) (by decide) (by decide)), fun a ha => (h3 a ha).fr hf (h4 a ha), fun a ha g hg hc hF => ?_⟩
  rcases hn g hF with h | h
  · exact h4 a ha g hg hc h
  · have := bs_blk_lt (h3 a ha).bs g hg hc
    omega
end Go.Proofs.Ytakogncnkbgkfaa
