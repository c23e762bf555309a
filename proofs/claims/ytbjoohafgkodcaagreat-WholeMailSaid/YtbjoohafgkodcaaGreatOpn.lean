/- Arguments that are slices of structs, read as lists. -/
import Derived.Test.YtbjoohafgkodcaaGreatLaw
import Derived.Deep.Slices
namespace Go.Proofs.YtbjoohafgkodcaaGreat
open Go Go.RowKit Go.WideShapes Go.ChangeShapes Go.ChangeAt Go.Shelf Go.Deep

section
variable {H : Type} {enc : TypeId × Value → H}
set_option maxRecDepth 100000 in
/-- a slice whose elements read as the things of a list -/
theorem open_rows {α : Type} {W : World} {t e : TypeId} {k : Nat} (ht : Tryz.prog.underlying t = some (.slice e)) (hc : Tryz.prog.cellsOf e = k) (enc1 : α → List Value) (hk : ∀ x, (enc1 x).length = k) (R : α → Prop)
    (el : ∀ n cs d, cs.length = k → DataW.trod enc Tryz.prog W 0 (fun _ => true) true n e cs = some d → ∃ x : α, cs = enc1 x ∧ R x)
    {b0 : Nat} {v : Value} {d : DataW H} {p : List MemPlace} (hv : Value.okWide Tryz.prog W .any b0 t v) (h : DataW.Trod enc Tryz.prog W 0 (fun _ => true) true t v d p) :
    ∃ l : List α, Sl W v l.length k (l.flatMap enc1) ∧ ∀ x ∈ l, R x := by
  obtain ⟨a, len, cap, rfl⟩ := okWide_slice ht hv
  obtain ⟨fuel, hf⟩ := h
  have hfl : ∀ l : List α, (l.flatMap enc1).length = l.length * k := fun l => by
    induction l with
    | nil => simp
    | cons x l ih => rw [List.flatMap_cons, List.length_append, hk, ih, List.length_cons, Nat.add_mul]; omega
  rcases open_slice ht hf with ⟨hcs, -⟩ | ⟨ad, len', cap', m, n, D, Pl, hcs, -, hl, hm, hmm, -, hx⟩
  · simp [Value.cells] at hcs
    obtain ⟨rfl, rfl, rfl⟩ := hcs
    exact ⟨[], Sl.nil W k, fun x hx => by cases hx⟩
  · simp [Value.cells] at hcs
    obtain ⟨rfl, rfl, rfl⟩ := hcs
    simp only [if_true] at hmm
    have each : ∀ i : Nat, i < len → ∃ x : α, R x ∧ ∀ j u, (enc1 x)[j]? = some u → W.cell? (ad.add (i * k + j)) = some u := by
      intro i hi
      obtain ⟨cs', h1, h2⟩ := hx i (by omega)
      rw [hc] at h1
      obtain ⟨_, hcl, hat⟩ := World.cells?_some h1
      obtain ⟨x, rfl, hR⟩ := el _ _ _ hcl h2
      refine ⟨x, hR, fun j u hu => ?_⟩
      have hj : j < k := by have := (List.getElem?_eq_some_iff.1 hu).1; rw [hk] at this; exact this
      have := hat j hj
      rw [Go.Deep.add_add] at this
      rw [this, hu]
    clear hx
    have build : ∀ q : Nat, q ≤ len → ∃ l : List α, l.length = q ∧ (∀ x ∈ l, R x) ∧ ∀ j u, (l.flatMap enc1)[j]? = some u → W.cell? (ad.add j) = some u := by
      intro q
      induction q with
      | zero => intro _; exact ⟨[], rfl, (fun x hx => by cases hx), fun j u hu => by simp at hu⟩
      | succ q ih =>
        intro hq
        obtain ⟨l, hl1, hl2, hl3⟩ := ih (by omega)
        obtain ⟨x, hR, hcx⟩ := each q (by omega)
        refine ⟨l ++ [x], by simp [hl1], ?_, ?_⟩
        · intro y hy
          rcases List.mem_append.1 hy with hy | hy
          · exact hl2 y hy
          · rw [List.mem_singleton.1 hy]; exact hR
        · intro j u hu
          rw [List.flatMap_append] at hu
          by_cases hj : j < l.length * k
          · rw [List.getElem?_append_left (by rw [hfl]; exact hj)] at hu
            exact hl3 j u hu
          · rw [List.getElem?_append_right (by rw [hfl]; omega), hfl] at hu
            simp only [List.flatMap_cons, List.flatMap_nil, List.append_nil] at hu
            have := hcx _ _ hu
            rwa [hl1, show q * k + (j - q * k) = j by rw [hl1] at hj; omega] at this
    obtain ⟨l, hl1, hl2, hl3⟩ := build len (Nat.le_refl _)
    refine ⟨l, ⟨by rw [hfl], some ad, cap, by rw [hl1], by rw [hl1]; exact hl, hm, (fun h => by cases h), ?_⟩, hl2⟩
    rintro ad' e' j u hu
    cases e'
    exact hl3 j u hu

set_option maxRecDepth 100000 in
theorem trod_u8 {W : World} {n : Nat} {c : Value} {y : DataW H × List MemPlace} (h : DataW.trod enc Tryz.prog W 0 (fun _ => true) true n 5 [c] = some y) : ∃ z : Nat, c = .int .u8 z ∧ z < 256 := by
  obtain ⟨z, e, -, wf⟩ := DataW.trod_int Tryz.underlying5 h
  have b := bounds_u8 wf
  simp at e
  obtain ⟨m, rfl⟩ := Int.eq_ofNat_of_zero_le b.1
  exact ⟨m, e, by omega⟩
set_option maxRecDepth 100000 in
theorem trod_i64 {W : World} {n : Nat} {c : Value} {y : DataW H × List MemPlace} (h : DataW.trod enc Tryz.prog W 0 (fun _ => true) true n 3 [c] = some y) : ∃ z : Int, c = .int .i64 z ∧ -9223372036854775808 ≤ z ∧ z ≤ 9223372036854775807 := by
  obtain ⟨z, e, -, wf⟩ := DataW.trod_int Tryz.underlying3 h
  have b := bounds_i64 wf
  simp at e
  exact ⟨z, e, by omega, by omega⟩
set_option maxRecDepth 100000 in
theorem trod_bytes {W : World} {n : Nat} {c : Value} {y : DataW H × List MemPlace} (h : DataW.trod enc Tryz.prog W 0 (fun _ => true) true n 22 [c] = some y) : ∃ l : List UInt8, Bs W c l := by
  rcases open_ints Tryz.underlying22 Tryz.underlying5 (by kernel_rfl) h with ⟨hcs, hx⟩ | ⟨ad, len, cap, zs, hcs, _, hl, hm, hz, hx, hcell, hwz⟩
  · simp at hcs
    subst hcs
    exact ⟨[], Sl.nil W 1⟩
  · simp at hcs
    subst hcs
    simp only [if_true] at hz
    have hb : ∀ z ∈ zs, 0 ≤ z ∧ z ≤ 255 := fun z hz => bounds_u8 (hwz z hz)
    refine ⟨(zs.take len).map fun z => UInt8.ofNat z.toNat, ?_⟩
    have hlen : ((zs.take len).map fun z => UInt8.ofNat z.toNat).length = len := by simp; omega
    refine ⟨by simp, some ad, cap, by rw [hlen], by rw [hlen]; exact hl, hm, (fun h => by cases h), ?_⟩
    rintro ad' e j u hu
    cases e
    have hj : j < len := by
      have := (List.getElem?_eq_some_iff.1 hu).1
      simp at this; omega
    rw [hcell j (by omega)]
    have hg : zs[j]? = some zs[j] := List.getElem?_eq_getElem (by omega)
    have hbj := hb zs[j] (List.getElem_mem _)
    have e2 : (bv ((zs.take len).map fun z => UInt8.ofNat z.toNat))[j]? = some (.int .u8 zs[j]) := by
      simp only [bv, List.map_map, List.getElem?_map, List.getElem?_take_of_lt hj, hg, Option.map_some, Function.comp]
      congr 2
      rw [UInt8.toNat_ofNat']
      omega
    rw [e2] at hu
    cases hu
    simp [List.getD, hg]
end
end Go.Proofs.YtbjoohafgkodcaaGreat
