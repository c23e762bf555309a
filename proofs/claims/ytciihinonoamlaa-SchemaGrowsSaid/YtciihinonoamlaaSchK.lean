/- Package schema: Kinds: contract. -/
import Derived.Test.YtciihinonoamlaaSchO
namespace Go.Proofs.Ytciihinonoamlaa
open Go Go.RowKit Go.Shelf
attribute [local go_sem] Oper.semAt_some

/-- the kinds of rows, each run of one kind once -/
def addKind (l : List UInt8) (r : Row) : List UInt8 := if l.getLast? = some (UInt8.ofNat r.1) then l else l ++ [UInt8.ofNat r.1]
def kindsOf (l : List Row) : List UInt8 := l.foldl addKind []
theorem kindsOf_snoc (l : List Row) (r : Row) : kindsOf (l ++ [r]) = addKind (kindsOf l) r := by simp [kindsOf]
theorem kinds_len (l : List Row) : (kindsOf l).length ≤ l.length := by
  have : ∀ (l : List Row) (s : List UInt8), (l.foldl addKind s).length ≤ s.length + l.length := by
    intro l
    induction l with
    | nil => intro s; simp
    | cons x l ih =>
      intro s
      have := ih (addKind s x)
      have h2 : (addKind s x).length ≤ s.length + 1 := by unfold addKind; split <;> simp
      simp only [List.foldl_cons, List.length_cons]; omega
  have := this l []
  simpa [kindsOf] using this
def KindsI (w : World) (pre : List Row) (W : World) : Prop := ∃ v, Blk W w.heap.size 32 #[v] ∧ OwnB W w.heap.size v (kindsOf pre) ∧ Grew w W
theorem KindsI.grew {w : World} {pre : List Row} {A B : World} (h : KindsI w pre A) (e : Grew A B) : KindsI w pre B := by
  obtain ⟨v, h1, h2, h3⟩ := h
  exact ⟨v, h1.grew e, own_grew h2 e, Grew.trans h3 e⟩
theorem KindsI.ck {w : World} {pre : List Row} {n : Nat} {A B : World} (h : KindsI w pre A) (e : CK n A B) (hn : w.heap.size ≤ n) : KindsI w pre B := by
  obtain ⟨v, h1, h2, h3⟩ := h
  exact ⟨v, e.blk h1, e.own h2, e.below h3 hn⟩
theorem kinds_small : ∀ r ∈ rowsAll, r.1 < 256 := by decide
theorem rowsIn_mem {v : Int} {r : Row} (h : r ∈ rowsIn v) : r ∈ rowsAll := by
  unfold rowsIn at h
  split at h
  · cases h
  · exact (List.mem_filter.1 h).1

set_option maxRecDepth 100000 in
set_option maxHeartbeats 2000000 in
theorem kinds_any (ver : Int) (w : World) : Calls Try.prog 13 #[.int .i64 ver] w fun e w' =>
    ∃ v, e = .returned v ∧ OwnB w' w.heap.size v (kindsOf (rowsIn ver)) ∧ Grew w w' := by
  refine (callsIn_wide (n := 0)).1 (callsIn_of_wp_marks Try.func13 rfl trivial ?_ rfl)
  simp only [Try.ntmps13, List.size_toArray, List.length_cons, List.length_nil, Nat.reduceAdd, Nat.reduceSub, Array.replicate_succ, Array.replicate_zero, List.push_toArray, List.append_toArray, List.nil_append, List.cons_append]
  gi_wp2_with (gi_at_call 22; refine (callsIn_wide.2 (each_any _ _)).mono ?_; rintro e w1 ⟨rfl, rfl⟩)
  refine wpIn_iterB (gf := 25) (lb := #[.pointer (some ⟨w.heap.size + 1, 0, none⟩)]) rfl (enters_of Try.func25 (by kernel_rfl) rfl)
    (each_iter ver (w.heap.size + 1) _ (Blk.at (by simp))) (fun A B e => keepsOthers_grew e) (fun A B C h1 h2 => h1.ck h2) (fun _ => rfl)
    (KindsI w) (fun _ _ _ => False) (fun pre A B h e => h.grew e) (fun pre A B h hc => h.ck hc (by simp; omega)) (fun _ _ _ _ h _ => h) (fun _ _ _ _ h _ => h)
    ⟨_, (Blk.new _ _ _).alloc _, ownB_nil _ _, ((Below.refl _ _).alloc (Nat.le_refl _) _).alloc (by simp) _⟩ ?round ?done ?stop
  case stop => rintro c pre W hs hf hd; exact hf.elim
  case round =>
    rintro lp pre ⟨kd, nm, ty, sl, si⟩ W hi hok
    have hkd : kd < 256 := kinds_small _ (rowsIn_mem (hok.subset (List.mem_append_right _ (List.mem_singleton.2 rfl))))
    have hlen : (kindsOf pre).length ≤ 40 := by
      have := kinds_len pre
      have := hok.length_le
      have := rowsIn_len ver
      simp at *; omega
    simp only [encRow]
    gi_wp2
    refine ⟨KeepsOthers.refl _, id, ?_⟩
    rintro W2 hck hsz ⟨v, h1, h2, h3⟩
    have hkeep : KeepB (w.heap.size + 1) 3 W W2 := fun cs hc => hck.blk hc
    clear hi hok hck hsz
    obtain ⟨K, hK⟩ : ∃ K, kindsOf pre = K := ⟨_, rfl⟩
    rw [hK] at h2 hlen
    have e := kindsOf_snoc pre (kd, nm, ty, sl, si)
    rw [hK] at e
    unfold addKind at e
    have HE := Lib.hid e
    clear e hK
    have hko : ((UInt8.ofNat kd).toNat : Int) = kd := by rw [UInt8.toNat_ofNat']; omega
    obtain ⟨a, c, rfl, h4, h5, h6, h7⟩ := (Sl.of_own h2).open
    have c1 := h1.cell 0
    simp only [List.getElem?_toArray, List.getElem?_cons_zero] at c1
    have hone : Bs (W2.alloc (.cells #[.int .u8 kd] 5)) (.slice (some ⟨W2.heap.size, 0, none⟩) 1 1) [UInt8.ofNat kd] := bs_lit W2 [UInt8.ofNat kd] #[.int .u8 kd] 1 rfl (by simp only [bv, List.map_cons, List.map_nil, hko]) (by omega)
    rcases List.eq_nil_or_concat K with rfl | ⟨pre', x, rfl⟩
    · clear h7
      have hne : some w.heap.size ≠ Value.ownBlock (.slice a 0 c) := blk_ne_row h1 h2 (by decide)
      have f0 := h1.frozen 0
      gi_wp2_with (gi_at_builtin; refine wpListIn_push rfl _ _ rfl w.heap.size (.slice a [].length c) [] rfl (own_grew h2 (grew_alloc _ _)) _ rfl [UInt8.ofNat kd] hone (by simp only [List.length_cons, List.length_nil, List.length_append] at *; omega) (by have := h3.size; simp; omega) ?_; intro v' w1 hown1 hB1 hgb; obtain ⟨a', c', rfl, -⟩ := (Sl.of_own hown1).open; have hb1 := (h1.alloc _).kept hgb hne; have f1' := hb1.frozen 0; have c1' := hb1.cell 0; simp only [List.getElem?_toArray, List.getElem?_cons_zero] at c1')
      refine ⟨((KeepsOthers.alloc _ _).trans (keepsOthers_app (own_grew h2 (grew_alloc _ _)) hgb)).trans (KeepsOthers.setCell _ _ _), ?_, _, hb1.set 0 _, ?_, ?_⟩
      · intro cs hc
        have hc2 := hkeep cs hc
        exact ((hc2.alloc _).kept hgb (blk_ne_row hc2 h2 (by decide))).other _ _ (by simp)
      · rw [HE.out, if_neg (by simp)]
        have := own_set hown1 ⟨w.heap.size, 0, none⟩ (.slice a' ([] ++ [UInt8.ofNat kd]).length c') (fun e' => blk_ne_row hb1 hown1 (by decide) e'.symm)
        simp only [OwnB, List.length_append, List.length_cons, List.length_nil, Nat.zero_add] at this ⊢
        exact this
      · exact grew_set (((h3.alloc h3.size _).trans (hB1.mono (by simp)))) (by omega) _
    · rw [List.concat_eq_append] at *
      obtain ⟨b, off, rfl, hc⟩ := h7 (by simp)
      have cl := hc pre'.length _ (bv_get _ _ (by simp))
      simp at cl
      have hx := u8lt x
      have hpl : pre'.length < 40 := by simp at hlen; omega
      have hl1 : (pre' ++ [x]).length = pre'.length + 1 := by simp
      replace h2 : OwnB W2 w.heap.size (.slice (some ⟨b, off, none⟩) (pre'.length + 1) c) (pre' ++ [x]) := by rw [← hl1]; exact h2
      rw [hl1] at h1
      have hz : ((pre'.length : Int) + 1 == 0) = false := by simp; omega
      by_cases hxk : x = UInt8.ofNat kd
      · have hn : ((x.toNat : Int) != (kd : Int)) = false := by rw [hxk, hko]; simp
        clear hc h7
        gi_wp2
        exact ⟨KeepsOthers.refl _, hkeep, _, h1, by rw [HE.out, if_pos (by simp [hxk])]; exact h2, h3⟩
      · have hn : ((x.toNat : Int) != (kd : Int)) = true := by
          rw [bne_iff_ne]; intro e; exact hxk (UInt8.toNat_inj.1 (by omega))
        clear hc h7
        have hne : some w.heap.size ≠ Value.ownBlock (.slice (some ⟨b, off, none⟩) (pre'.length + 1) c) := blk_ne_row h1 h2 (by decide)
        have f0 := h1.frozen 0
        gi_wp2_with (gi_at_builtin; refine wpListIn_push rfl _ _ rfl w.heap.size (.slice (some ⟨b, off, none⟩) (pre'.length + 1) c) (pre' ++ [x]) rfl (own_grew h2 (grew_alloc _ _)) _ rfl [UInt8.ofNat kd] hone (by simp only [List.length_cons, List.length_nil, List.length_append] at *; omega) (by have := h3.size; simp; omega) ?_; intro v' w1 hown1 hB1 hgb; obtain ⟨a', c', rfl, -⟩ := (Sl.of_own hown1).open; have hb1 := (h1.alloc _).kept hgb hne; have f1' := hb1.frozen 0; have c1' := hb1.cell 0; simp only [List.getElem?_toArray, List.getElem?_cons_zero] at c1')
        refine ⟨((KeepsOthers.alloc _ _).trans (keepsOthers_app (own_grew h2 (grew_alloc _ _)) hgb)).trans (KeepsOthers.setCell _ _ _), ?_, _, hb1.set 0 _, ?_, ?_⟩
        · intro cs hc
          have hc2 := hkeep cs hc
          exact ((hc2.alloc _).kept hgb (blk_ne_row hc2 h2 (by decide))).other _ _ (by simp)
        · rw [HE.out, if_neg (by simp [hxk])]
          have := own_set hown1 ⟨w.heap.size, 0, none⟩ (.slice a' (pre' ++ [x] ++ [UInt8.ofNat kd]).length c') (fun e' => blk_ne_row hb1 hown1 (by decide) e'.symm)
          simp only [OwnB, List.length_append, List.length_cons, List.length_nil, Nat.zero_add] at this ⊢
          exact this
        · exact grew_set (((h3.alloc h3.size _).trans (hB1.mono (by simp)))) (by omega) _
  case done =>
    rintro xs W rfl ⟨v, h1, h2, h3⟩ hD
    have c1 := h1.cell 0
    simp only [List.getElem?_toArray, List.getElem?_cons_zero] at c1
    gi_wp2
    simp only [World.size_alloc] at hD ⊢
    have hck := CK.putObj (w.heap.size + 1 + 1) W _ _ (.deferred none) hD rfl (Nat.le_refl _)
    refine ⟨by simp, .inl ⟨_, _, rfl, run_takeDeferred hD, ?_⟩⟩
    exact ⟨_, results_tmp rfl _ _ _, v, rfl, hck.own h2, Below.trans h3 (hck.toBelow (by omega))⟩
end Go.Proofs.Ytciihinonoamlaa
