/- Package strict: unlike, both, Decode, Fix: contracts. -/
import Derived.Test.YtbjoohafgkodcaaGreatSr1
import Derived.WalkMore
namespace Go.Proofs.YtbjoohafgkodcaaGreat
open Go Go.RowKit Go.Shelf
attribute [local go_sem] Oper.semAt_some

/-- the first place at which bytes are unlike; -1: none -/
def unlikeM (a b : List UInt8) : Int := if a = b then -1 else (cpl a b : Nat)
theorem unlike_at {a b : List UInt8} {k : Nat} (h1 : k ≤ a.length) (h2 : k ≤ b.length) (h3 : a.take k = b.take k) (h4 : (k = a.length ∧ k ≠ b.length) ∨ (k = b.length ∧ k ≠ a.length) ∨ (k < a.length ∧ a[k]? ≠ b[k]?)) : unlikeM a b = (k : Nat) := by
  have hc := cpl_at k a b h1 h2 h3 (by rcases h4 with h | h | h; exact .inl h.1; exact .inr (.inl h.1); exact .inr (.inr h.2))
  have hne : a ≠ b := by
    rintro rfl
    rcases h4 with h | h | h
    · exact h.2 h.1
    · exact h.2 h.1
    · exact h.2 rfl
  unfold unlikeM
  rw [if_neg hne, hc]
theorem unlike_none {a b : List UInt8} {k : Nat} (h1 : k = a.length) (h2 : k = b.length) (h3 : a.take k = b.take k) : unlikeM a b = -1 := by
  have e : a = b := by
    rw [h1, List.take_length, ← h1, h2, List.take_length] at h3; exact h3
  unfold unlikeM
  rw [if_pos e]
set_option maxRecDepth 100000 in
set_option maxHeartbeats 4000000 in
theorem sunlike_any (a b : List UInt8) (va vb : Value) (w : World) (ha : Bs w va a) (hb : Bs w vb b) :
    Calls Tryz.prog 28 #[va, vb] w fun e w' => e = .returned (.int .i64 (unlikeM a b)) ∧ Drew w w' := by
  obtain ⟨aa, ca, rfl, a1, a2, -, ah⟩ := ha.open
  obtain ⟨ab, cb, rfl, b1, b2, -, bh⟩ := hb.open
  unfold maxLen at a2 b2
  have HA := Lib.hid ha
  have HB := Lib.hid hb
  have HAH := Lib.hid ah
  have HBH := Lib.hid bh
  clear ha hb ah bh
  rcases Nat.lt_or_ge a.length b.length with hab | hab
  · go_enter Tryz.func28, Tryz.ntmps28
    go_wp2
    go_step3
    go_wp2
    go_step3
    go_wp2
    go_loopw [5, 12] (fun va i wr => (∃ k : Nat, va = .int .i64 (-1) ∧ i = .int .i64 k ∧ k ≤ a.length ∧ k ≤ b.length ∧ RowKit.Hid (a.take k = b.take k)) ∧ Drew w wr) (fun _ i _ => b.length - (intOf i).toNat)
    case atStart => exact ⟨⟨0, rfl, rfl, Nat.zero_le _, Nat.zero_le _, by show List.take 0 a = List.take 0 b; simp⟩, Drew.refl _⟩
    case round =>
      obtain ⟨⟨k, rfl, rfl, hka, hkb, ht⟩, hD⟩ := hrel
      by_cases hlt : k < b.length
      · have z0 : (0 : Int) ≤ (k : Int) := by omega
        have z1 : (k : Int) < (b.length : Int) := by omega
        by_cases hla : k < a.length
        · by_cases hlb : k < b.length
          · obtain ⟨ba, oa, rfl, c1⟩ := HAH.out (by omega)
            obtain ⟨bb, ob, rfl, c2⟩ := HBH.out (by omega)
            have x1 := (below_ext hD.grew) _ _ (c1 k _ (bv_get a k hla))
            have x2 := (below_ext hD.grew) _ _ (c2 k _ (bv_get b k hlb))
            have z2 : (k : Int) < (a.length : Int) := by omega
            have z3 : (k : Int) < (b.length : Int) := by omega
            have z4 : ((k : Int) ≥ (a.length : Int)) = False := by simp; omega
            have z5 : ((k : Int) ≥ (b.length : Int)) = False := by simp; omega
            have hu := u8_ne a[k] b[k]
            by_cases hq : a[k] = b[k]
            · have hu2 : (((a[k]).toNat : Int) != ((b[k]).toNat : Int)) = false := by rw [hu, hq]; simp
              have ht2 := Lib.hid (take_succ_eq a b k hla hlb ht.out hq)
              clear hu c1 c2
              go_wp2
              go_quiet (fail)
              go_wp2
              go_roundw
              case rel => exact ⟨⟨k + 1, rfl, by go_num, by omega, by omega, ht2⟩, hD.more _⟩
              case measure => simp [intOf]; omega
            · have hu2 : (((a[k]).toNat : Int) != ((b[k]).toNat : Int)) = true := by rw [hu]; simp [hq]
              have e := unlike_at (a := a) (b := b) (k := k) hka hkb ht.out (.inr (.inr ⟨hla, by rw [List.getElem?_eq_getElem hla, List.getElem?_eq_getElem hlb]; intro h; exact hq (Option.some.inj h)⟩))
              have E := Lib.hid e
              clear e
              clear hu c1 c2
              go_wp2
              go_quiet (fail)
              go_wp2
              rw [Exit.noGoto_ret]
              go_ret
              exact ⟨by rw [E.out]; rfl, hD.more _⟩
          · exact absurd hlt hlb
        · have e := unlike_at (a := a) (b := b) (k := k) hka hkb ht.out (.inl ⟨by omega, by omega⟩)
          have E := Lib.hid e
          clear e
          have z5 : (k : Int) ≥ (a.length : Int) := by omega
          go_wp2
          go_quiet (fail)
          go_wp2
          rw [Exit.noGoto_ret]
          go_ret
          exact ⟨by rw [E.out]; rfl, hD.more _⟩
      · exact absurd (by omega) hlt
  · go_enter Tryz.func28, Tryz.ntmps28
    go_wp2
    go_step3
    go_wp2
    go_step3
    go_wp2
    go_loopw [5, 12] (fun va i wr => (∃ k : Nat, va = .int .i64 (-1) ∧ i = .int .i64 k ∧ k ≤ a.length ∧ k ≤ b.length ∧ RowKit.Hid (a.take k = b.take k)) ∧ Drew w wr) (fun _ i _ => a.length - (intOf i).toNat)
    case atStart => exact ⟨⟨0, rfl, rfl, Nat.zero_le _, Nat.zero_le _, by show List.take 0 a = List.take 0 b; simp⟩, Drew.refl _⟩
    case round =>
      obtain ⟨⟨k, rfl, rfl, hka, hkb, ht⟩, hD⟩ := hrel
      by_cases hlt : k < a.length
      · have z0 : (0 : Int) ≤ (k : Int) := by omega
        have z1 : (k : Int) < (a.length : Int) := by omega
        by_cases hla : k < a.length
        · by_cases hlb : k < b.length
          · obtain ⟨ba, oa, rfl, c1⟩ := HAH.out (by omega)
            obtain ⟨bb, ob, rfl, c2⟩ := HBH.out (by omega)
            have x1 := (below_ext hD.grew) _ _ (c1 k _ (bv_get a k hla))
            have x2 := (below_ext hD.grew) _ _ (c2 k _ (bv_get b k hlb))
            have z2 : (k : Int) < (a.length : Int) := by omega
            have z3 : (k : Int) < (b.length : Int) := by omega
            have z4 : ((k : Int) ≥ (a.length : Int)) = False := by simp; omega
            have z5 : ((k : Int) ≥ (b.length : Int)) = False := by simp; omega
            have hu := u8_ne a[k] b[k]
            by_cases hq : a[k] = b[k]
            · have hu2 : (((a[k]).toNat : Int) != ((b[k]).toNat : Int)) = false := by rw [hu, hq]; simp
              have ht2 := Lib.hid (take_succ_eq a b k hla hlb ht.out hq)
              clear hu c1 c2
              go_wp2
              go_quiet (fail)
              go_wp2
              go_roundw
              case rel => exact ⟨⟨k + 1, rfl, by go_num, by omega, by omega, ht2⟩, hD.more _⟩
              case measure => simp [intOf]; omega
            · have hu2 : (((a[k]).toNat : Int) != ((b[k]).toNat : Int)) = true := by rw [hu]; simp [hq]
              have e := unlike_at (a := a) (b := b) (k := k) hka hkb ht.out (.inr (.inr ⟨hla, by rw [List.getElem?_eq_getElem hla, List.getElem?_eq_getElem hlb]; intro h; exact hq (Option.some.inj h)⟩))
              have E := Lib.hid e
              clear e
              clear hu c1 c2
              go_wp2
              go_quiet (fail)
              go_wp2
              rw [Exit.noGoto_ret]
              go_ret
              exact ⟨by rw [E.out]; rfl, hD.more _⟩
          · have e := unlike_at (a := a) (b := b) (k := k) hka hkb ht.out (.inr (.inl ⟨by omega, by omega⟩))
            have E := Lib.hid e
            clear e
            obtain rfl : k = b.length := by omega
            clear z0 hkb hlb hlt hka
            go_wp2
            have q1 : decide (((b.length : Nat) : Int) ≥ (a.length : Int)) = false := by simp; omega
            have q2 : ¬ (((b.length : Nat) : Int) ≥ (a.length : Int)) := by omega
            go_quiet (fail)
            clear q1 q2 hab z1 hla HA HB HAH HBH ht
            go_wp2
            rw [Exit.noGoto_ret]
            go_ret
            exact ⟨by rw [E.out]; rfl, hD.more _⟩
        · exact absurd hlt hla
      · have e := unlike_none (a := a) (b := b) (k := k) (by omega) (by omega) ht.out
        have E := Lib.hid e
        clear e
        obtain rfl : k = a.length := by omega
        clear hkb hab hka hlt ht HA HB HAH HBH
        go_wp2
        first | go_ret | (rw [Exit.noGoto_ret]; go_ret)
        exact ⟨E.out ▸ rfl, hD⟩
end Go.Proofs.YtbjoohafgkodcaaGreat
