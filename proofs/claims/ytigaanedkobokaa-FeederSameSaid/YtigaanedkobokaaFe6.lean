/- rescriptref15: Held, End. -/
import Derived.Test.YtigaanedkobokaaFe5
namespace Go.Proofs.Ytigaanedkobokaa
open Go Go.RowKit Go.Shelf

set_option maxHeartbeats 1000000 in
theorem r15held_any (base : Nat) (F : Nat → Prop) (p : Nat) (B : List UInt8) (n : Nat) (over : Bool) (w : World) (h : FdS 59 base F w p B n over) (hl : B.length ≤ 100000000) :
    Calls Try.prog 40 #[.pointer (some ⟨p, 0, none⟩)] w fun e w' => e = .returned (.int .i64 (if over then 0 else B.length - (walkL false B 0).2.2 : Nat)) ∧ Grew w w' := by
  obtain ⟨kv, h1, h2, h3, h4⟩ := id h
  obtain ⟨ka, kc, rfl, -, -⟩ := ownB_shape h2
  obtain ⟨x0, x1, x2, -, -, -⟩ := cells3 h1
  cases over with
  | true =>
    clear h h1 h2 h4
    go_enter Try.func40, Try.ntmps40
    go_wp2
    go_ret
    exact ⟨rfl, Below.refl _ _⟩
  | false =>
    have hw := r14walk_any B false _ w (Sl.of_own h2) (by omega)
    have hf := (walk_from false B 0).2.1
    simp only [Bool.false_eq_true, if_false]
    generalize (walkL false B 0).1 = A at hw
    generalize (walkL false B 0).2.1 = P at hw
    generalize (walkL false B 0).2.2 = E at hw hf ⊢
    have HW := Lib.hid hw
    have H1 := Lib.hid h1
    have hs : (B.length : Int) - (E : Int) = ((B.length - E : Nat) : Int) := by omega
    clear hw h h1 h2 h4
    go_enter Try.func40, Try.ntmps40
    go_wp2_with fail
    refine HW.out.mono ?_
    rintro e w1 ⟨v1, rfl, r1, g1⟩
    obtain ⟨a1, n1, c1, rfl, -, -, -⟩ := r1.shape
    obtain ⟨y0, y1, y2, -, -, -⟩ := cells3 (H1.out.grew g1)
    clear r1 x0 x1 x2
    go_wp2
    go_ret
    exact ⟨by first | rfl | rw [hs], g1⟩
set_option maxRecDepth 100000 in
set_option maxHeartbeats 2000000 in
theorem r15end_any (base : Nat) (F : Nat → Prop) (p : Nat) (B : List UInt8) (n : Nat) (over : Bool) (w : World) (h : FdS 59 base F w p B n over) (hl : B.length ≤ 100000000) :
    Calls Try.prog 36 #[.pointer (some ⟨p, 0, none⟩)] w fun e w' => ∃ v, e = .returned v ∧ FOs w' w.heap.size v (if over then [] else shF (walkL false B 0).2.2 (walkL true (B.drop (walkL false B 0).2.2) 0).1) ∧ FdP 59 base F p B n true w w' := by
  obtain ⟨kv, h1, h2, h3, h4⟩ := id h
  obtain ⟨ka, kc, rfl, hk1, hk2⟩ := ownB_shape h2
  obtain ⟨x0, x1, x2, -, -, -⟩ := cells3 h1
  cases over with
  | true =>
    have H := Lib.hid h
    clear h h1 h2 h4
    go_enter Try.func36, Try.ntmps36
    go_wp2
    go_ret
    exact ⟨_, rfl, FOs.nil _ _, FdP.mk_grew H.out (Below.refl _ _)⟩
  | false =>
    have hw := r14walk_any B false _ w (Sl.of_own h2) (by omega)
    have hf := (walk_from false B 0).2.1
    simp only [Bool.false_eq_true, if_false]
    generalize (walkL false B 0).1 = A at hw
    generalize (walkL false B 0).2.1 = P at hw
    generalize (walkL false B 0).2.2 = E at hw hf ⊢
    obtain ⟨D, hD⟩ : ∃ D, D = B.drop E := ⟨_, rfl⟩
    have hDl : D.length = B.length - E := by rw [hD, List.length_drop]
    rw [← hD]
    have kw := r14walk_any D true
    have hat := fun x hx => ((walk_at true D 0).1 x hx).2.1
    have hft := (walk_from true D 0).2.1
    obtain ⟨R, hR⟩ : ∃ R, R = walkL true D 0 := ⟨_, rfl⟩
    rw [← hR] at kw hat hft ⊢
    have KW := Lib.hid kw
    have HAT := Lib.hid hat
    have HD := Lib.hid hD
    have HDL := Lib.hid hDl
    have hft2 : R.2.2 ≤ 100000000 := by omega
    have HR := Lib.hid hR
    clear kw hat hR hD hDl hft
    have HW := Lib.hid hw
    have H1 := Lib.hid h1
    have H2 := Lib.hid h2
    have H := Lib.hid h
    have H4 := Lib.hid h4
    have hne : (Value.slice ka B.length kc).ownBlock ≠ some p := fun e => blk_ne_row h1 h2 (by decide) e.symm
    have HNE := Lib.hid hne
    have hsh : (ka = none ∧ kc = 0 ∧ B = []) ∨ ∃ g, ka = some ⟨g, 0, none⟩ := by
      rcases h2.2 with ⟨e, _⟩ | ⟨g, cap, cur, e, _⟩
      · simp only [Value.slice.injEq] at e; exact .inl ⟨e.1, e.2.2, List.eq_nil_of_length_eq_zero e.2.1⟩
      · simp only [Value.slice.injEq] at e; exact .inr ⟨g, e.1⟩
    have HSH := Lib.hid hsh
    have z1 : (E : Int) ≤ (kc : Int) := by omega
    have z2 : (E : Int) ≤ (B.length : Int) := by omega
    clear hw h h1 h2 h4 hne hsh
    go_enter Try.func36, Try.ntmps36
    go_wp2_with fail
    refine HW.out.mono ?_
    rintro e w1 ⟨v1, rfl, r1, g1⟩
    obtain ⟨a1, n1, c1, rfl, -, -, -⟩ := r1.shape
    obtain ⟨y0, y1, y2, -, -, -⟩ := cells3 (H1.out.grew g1)
    clear r1 x0 x1 x2
    rcases HSH.out with ⟨rfl, rfl, hB⟩ | ⟨gg, rfl⟩
    · have hE0 : E = 0 := by rw [hB] at hf; simpa using hf
      have hD0 : D = [] := by rw [HD.out, hB, List.drop_nil]
      have hR0 : R.1 = [] := by rw [HR.out, hD0]; rfl
      have hsv : Bs w1 (.slice none 0 0) D := by rw [hD0]; exact Sl.nil _ 1
      have HR0 := Lib.hid hR0
      have HSV := Lib.hid hsv
      subst hB
      subst hE0
      clear hsv hR0 hD0
      go_wp2_with fail
      refine (KW.out _ w1 HSV.out (by have h0 : D.length = 0 := HDL.out; omega)).mono ?_
      rw [HR0.out]
      rintro e w2 ⟨v2, rfl, ⟨ps, hps, r2⟩, g2⟩
      obtain rfl : ps = [] := by simpa using hps
      obtain ⟨a, c, e⟩ : ∃ a c, v2 = .slice a 0 c := by obtain ⟨a, c, e, _⟩ := (Sl.of_own r2.1).open; exact ⟨a, c, e⟩
      subst e
      have G2 := g1.trans g2
      have K2 := H1.out.grew G2
      obtain ⟨t0, t1, t2, s0, s1, s2⟩ := cells3 K2
      have HK2 := Lib.hid K2
      have HR2 := Lib.hid r2
      have hplt : p < w1.heap.size := (H1.out.grew g1).lt
      clear y0 y1 y2 r2 hps K2
      go_wp2
      go_loop [9] (fun i => i = .int .i64 0) (fun i => 0)
      case atStart => rfl
      case round =>
        obtain rfl := hrel
        go_wp2
        go_ret
        have fr1 : Fr (· = p) w2 (w2.setCell ⟨p, 2, none⟩ (.bool true)) := (Fr.refl _ _).set p 2 _ (fun _ => rfl)
        refine ⟨_, rfl, ⟨[], by rw [HR0.out]; rfl, (HR2.out.fr2 fr1 (fun k hk => by rw [hk]; exact hplt)).mono g1.size⟩, F, ⟨_, HK2.out.set 2 _, own_set (own_grew H2.out G2) _ _ HNE.out, h3, fun k => H4.out k⟩, (Fr.of_grew G2).set p 2 _ (fun _ => (H4.out p).2 (.inl rfl)), fun _ h => .inl h⟩
    · have hsv := bs_dropI ((Sl.of_own H2.out).grew g1) E (by omega)
      rw [Nat.zero_add, ← HD.out] at hsv
      by_cases hkE : kc = E
      · rw [if_pos hkE, show kc - E = 0 by omega] at hsv
        have HSV := Lib.hid hsv
        clear hsv
        go_wp2_with fail
        refine (KW.out _ w1 HSV.out (by have := HDL.out; omega)).mono ?_
        rintro e w2 ⟨v2, rfl, ⟨ps, hps, r2⟩, g2⟩
        obtain ⟨a, c, e, hc1, hc2⟩ : ∃ a c, v2 = .slice a ps.length c ∧ ps.length ≤ c ∧ c ≤ 9223372036854775807 := by
          obtain ⟨a, c, e, q1, q2, _⟩ := (Sl.of_own r2.1).open
          unfold maxLen at q2
          exact ⟨a, c, e, q1, by omega⟩
        subst e
        have G2 := g1.trans g2
        have HP : RowKit.Hid (∀ q ∈ ps, q.1.1 ≤ 100000000) := by
          intro q hq
          have hm : q.1 ∈ R.1 := by rw [← hps]; exact List.mem_map.2 ⟨q, hq, rfl⟩
          have := HAT.out q.1 hm
          unfold fend at this; omega
        have hrow : ∀ i, (Value.slice a ps.length c).ownBlock = some i → w1.heap.size ≤ i := fun i hi => (own_lt r2.1 i hi).1
        have hplt : p < w1.heap.size := (H1.out.grew g1).lt
        have HROW := Lib.hid hrow
        have HPS := Lib.hid hps
        have HV := Lib.hid r2
        clear r2 hps hrow y0 y1 y2
        go_wp2
        go_loopw [9] (fun i wr => (∃ k : Nat, k ≤ ps.length ∧ i = .int .i64 k ∧ RowKit.Hid (FoundsV wr w1.heap.size (.slice a ps.length c) ((ps.take k).map (shV E) ++ ps.drop k))) ∧ Fr (fun i => (Value.slice a ps.length c).ownBlock = some i) w2 wr) (fun i _ => ps.length - (intOf i).toNat)
        case atStart => exact ⟨⟨0, Nat.zero_le _, rfl, by show FoundsV _ _ _ _; simpa using HV.out⟩, Fr.refl _ _⟩
        case round =>
          obtain ⟨⟨k, hk, rfl, hI⟩, hF⟩ := hrel
          by_cases hlt : k < ps.length
          · have hql : ((ps.take k).map (shV E) ++ ps.drop k).length = ps.length := mid_len (shV E) ps k hk
            obtain ⟨g, cap, e, q1, q2, q3, q4, hset⟩ := founds_open hI.out (by omega)
            have hkq : k < ((ps.take k).map (shV E) ++ ps.drop k).length := by omega
            obtain ⟨x0, x1, hs⟩ := hset k hkq
            have hgk : ((ps.take k).map (shV E) ++ ps.drop k)[k] = ps[k] := mid_get (shV E) ps k hlt
            rw [hgk] at x0
            have hs2 := hs (ps[k].1.1 + E)
            have hset2 : ((ps.take k).map (shV E) ++ ps.drop k).set k ((ps[k].1.1 + E, (((ps.take k).map (shV E) ++ ps.drop k)[k]).1.2), (((ps.take k).map (shV E) ++ ps.drop k)[k]).2) = (ps.take (k + 1)).map (shV E) ++ ps.drop (k + 1) := by
              rw [hgk]; exact mid_set (shV E) ps k hlt
            rw [hset2] at hs2
            have hpl := HP.out ps[k] (List.getElem_mem hlt)
            generalize ps[k].1.1 = m at x0 hs2 hpl
            obtain ⟨ea, ec⟩ : a = some ⟨g, 0, none⟩ ∧ c = cap := by
              simp only [Value.slice.injEq] at e; exact ⟨e.1, e.2.2⟩
            subst ea ec
            have HS := Lib.hid hs2
            have hg2 : (fun i => (Value.slice (some ⟨g, 0, none⟩) ps.length c).ownBlock = some i) g := rfl
            have hF2 := hF.set g (k * 3) (.int .i64 ((m + E : Nat) : Int)) (fun _ => hg2)
            have HF2 := Lib.hid hF2
            have z3 : (0 : Int) ≤ (k : Int) := by omega
            have z4 : (k : Int) < (ps.length : Int) := by omega
            clear hset hs hgk hset2 hs2 hkq hql e hI hg2 hF2
            push_cast at HS HF2
            go_wp2
            go_roundw
            case rel => exact ⟨⟨k + 1, by omega, by go_num, by show FoundsV _ _ _ _; exact HS.out⟩, HF2.out⟩
            case measure => simp [intOf]; omega
          · obtain rfl : k = ps.length := by omega
            have hfin := hI.out
            rw [List.take_length, List.drop_length, List.append_nil] at hfin
            have k3 := ((H1.out.grew G2)).fr hF (fun e => by have := HROW.out p e; omega)
            obtain ⟨t0, t1, t2, s0, s1, s2⟩ := cells3 k3
            have HFIN := Lib.hid hfin
            have K3 := Lib.hid k3
            have ho3 := own_fr (own_grew H2.out G2) hF (fun g hg hi => by have := HROW.out g hi; have := (own_lt H2.out g hg).2; have := g1.size; omega)
            have HO3 := Lib.hid ho3
            clear hfin k3 hI ho3
            go_wp2
            go_ret
            have hsz : w.heap.size ≤ w1.heap.size := g1.size
            have fr1 : Fr (· = p) wr (wr.setCell ⟨p, 2, none⟩ (.bool true)) := (Fr.refl _ _).set p 2 _ (fun _ => rfl)
            refine ⟨_, rfl, FOs.mono ⟨ps.map (shV E), by rw [shF_map, HPS.out], HFIN.out.fr2 fr1 (fun k hk => by rw [hk]; exact hplt)⟩ hsz, F, ⟨_, K3.out.set 2 _, own_set HO3.out _ _ HNE.out, h3, fun k => H4.out k⟩, ?_, fun _ h => .inl h⟩
            exact ((Fr.of_grew G2).trans' hF (fun i hi hr => by have := HROW.out i hr; omega)).set p 2 _ (fun _ => (H4.out p).2 (.inl rfl))
      · rw [if_neg hkE] at hsv
        have HSV := Lib.hid hsv
        clear hsv
        go_wp2_with fail
        refine (KW.out _ w1 HSV.out (by have := HDL.out; omega)).mono ?_
        rintro e w2 ⟨v2, rfl, ⟨ps, hps, r2⟩, g2⟩
        obtain ⟨a, c, e, hc1, hc2⟩ : ∃ a c, v2 = .slice a ps.length c ∧ ps.length ≤ c ∧ c ≤ 9223372036854775807 := by
          obtain ⟨a, c, e, q1, q2, _⟩ := (Sl.of_own r2.1).open
          unfold maxLen at q2
          exact ⟨a, c, e, q1, by omega⟩
        subst e
        have G2 := g1.trans g2
        have HP : RowKit.Hid (∀ q ∈ ps, q.1.1 ≤ 100000000) := by
          intro q hq
          have hm : q.1 ∈ R.1 := by rw [← hps]; exact List.mem_map.2 ⟨q, hq, rfl⟩
          have := HAT.out q.1 hm
          unfold fend at this; omega
        have hrow : ∀ i, (Value.slice a ps.length c).ownBlock = some i → w1.heap.size ≤ i := fun i hi => (own_lt r2.1 i hi).1
        have hplt : p < w1.heap.size := (H1.out.grew g1).lt
        have HROW := Lib.hid hrow
        have HPS := Lib.hid hps
        have HV := Lib.hid r2
        clear r2 hps hrow y0 y1 y2
        go_wp2
        go_loopw [9] (fun i wr => (∃ k : Nat, k ≤ ps.length ∧ i = .int .i64 k ∧ RowKit.Hid (FoundsV wr w1.heap.size (.slice a ps.length c) ((ps.take k).map (shV E) ++ ps.drop k))) ∧ Fr (fun i => (Value.slice a ps.length c).ownBlock = some i) w2 wr) (fun i _ => ps.length - (intOf i).toNat)
        case atStart => exact ⟨⟨0, Nat.zero_le _, rfl, by show FoundsV _ _ _ _; simpa using HV.out⟩, Fr.refl _ _⟩
        case round =>
          obtain ⟨⟨k, hk, rfl, hI⟩, hF⟩ := hrel
          by_cases hlt : k < ps.length
          · have hql : ((ps.take k).map (shV E) ++ ps.drop k).length = ps.length := mid_len (shV E) ps k hk
            obtain ⟨g, cap, e, q1, q2, q3, q4, hset⟩ := founds_open hI.out (by omega)
            have hkq : k < ((ps.take k).map (shV E) ++ ps.drop k).length := by omega
            obtain ⟨x0, x1, hs⟩ := hset k hkq
            have hgk : ((ps.take k).map (shV E) ++ ps.drop k)[k] = ps[k] := mid_get (shV E) ps k hlt
            rw [hgk] at x0
            have hs2 := hs (ps[k].1.1 + E)
            have hset2 : ((ps.take k).map (shV E) ++ ps.drop k).set k ((ps[k].1.1 + E, (((ps.take k).map (shV E) ++ ps.drop k)[k]).1.2), (((ps.take k).map (shV E) ++ ps.drop k)[k]).2) = (ps.take (k + 1)).map (shV E) ++ ps.drop (k + 1) := by
              rw [hgk]; exact mid_set (shV E) ps k hlt
            rw [hset2] at hs2
            have hpl := HP.out ps[k] (List.getElem_mem hlt)
            generalize ps[k].1.1 = m at x0 hs2 hpl
            obtain ⟨ea, ec⟩ : a = some ⟨g, 0, none⟩ ∧ c = cap := by
              simp only [Value.slice.injEq] at e; exact ⟨e.1, e.2.2⟩
            subst ea ec
            have HS := Lib.hid hs2
            have hg2 : (fun i => (Value.slice (some ⟨g, 0, none⟩) ps.length c).ownBlock = some i) g := rfl
            have hF2 := hF.set g (k * 3) (.int .i64 ((m + E : Nat) : Int)) (fun _ => hg2)
            have HF2 := Lib.hid hF2
            have z3 : (0 : Int) ≤ (k : Int) := by omega
            have z4 : (k : Int) < (ps.length : Int) := by omega
            clear hset hs hgk hset2 hs2 hkq hql e hI hg2 hF2
            push_cast at HS HF2
            go_wp2
            go_roundw
            case rel => exact ⟨⟨k + 1, by omega, by go_num, by show FoundsV _ _ _ _; exact HS.out⟩, HF2.out⟩
            case measure => simp [intOf]; omega
          · obtain rfl : k = ps.length := by omega
            have hfin := hI.out
            rw [List.take_length, List.drop_length, List.append_nil] at hfin
            have k3 := ((H1.out.grew G2)).fr hF (fun e => by have := HROW.out p e; omega)
            obtain ⟨t0, t1, t2, s0, s1, s2⟩ := cells3 k3
            have HFIN := Lib.hid hfin
            have K3 := Lib.hid k3
            have ho3 := own_fr (own_grew H2.out G2) hF (fun g hg hi => by have := HROW.out g hi; have := (own_lt H2.out g hg).2; have := g1.size; omega)
            have HO3 := Lib.hid ho3
            clear hfin k3 hI ho3
            go_wp2
            go_ret
            have hsz : w.heap.size ≤ w1.heap.size := g1.size
            have fr1 : Fr (· = p) wr (wr.setCell ⟨p, 2, none⟩ (.bool true)) := (Fr.refl _ _).set p 2 _ (fun _ => rfl)
            refine ⟨_, rfl, FOs.mono ⟨ps.map (shV E), by rw [shF_map, HPS.out], HFIN.out.fr2 fr1 (fun k hk => by rw [hk]; exact hplt)⟩ hsz, F, ⟨_, K3.out.set 2 _, own_set HO3.out _ _ HNE.out, h3, fun k => H4.out k⟩, ?_, fun _ h => .inl h⟩
            exact ((Fr.of_grew G2).trans' hF (fun i hi hr => by have := HROW.out i hr; omega)).set p 2 _ (fun _ => (H4.out p).2 (.inl rfl))
end Go.Proofs.Ytigaanedkobokaa
