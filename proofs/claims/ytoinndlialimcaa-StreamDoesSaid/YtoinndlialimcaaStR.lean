/- rescriptref16.One: contract. -/
import Derived.Test.YtoinndlialimcaaStD
namespace Go.Proofs.Ytoinndlialimcaa
open Go Go.RowKit Go.Shelf

/-- v[i:j], wherever v lies, as the model spells it -/
theorem bs_piece {w : World} {a : Option Addr} {c : Nat} {l : List UInt8} (h : Bs w (.slice a l.length c) l) {i j : Nat} (hij : i ≤ j) (hj : j ≤ l.length) (v : Value)
    (hv : (i = 0 ∧ v = .slice a j c) ∨ (c = i ∧ v = .slice a (j - i) (c - i)) ∨ v = .slice (a.map fun x => x.add i) (j - i) (c - i)) : Bs w v ((l.drop i).take (j - i)) := by
  obtain ⟨q0, a', c', e, q1, q2, q3, q4⟩ := id h
  simp only [Value.slice.injEq] at e
  obtain ⟨rfl, -, rfl⟩ := e
  have hll : ((l.drop i).take (j - i)).length = j - i := by rw [List.length_take, List.length_drop]; omega
  rcases hv with ⟨rfl, rfl⟩ | ⟨rfl, rfl⟩ | rfl
  · have := bs_take h j hj
    simpa using this
  · have e0 : j - c = 0 := by omega
    have e1 : (l.drop c).take (j - c) = [] := List.eq_nil_of_length_eq_zero (by rw [hll]; omega)
    rw [e1, e0]
    exact ⟨rfl, a, c - c, rfl, by simp, by unfold maxLen; omega, fun _ => Nat.sub_self c, fun ad e j u hu => by simp [bv] at hu⟩
  · by_cases hz : j - i = 0
    · have e1 : (l.drop i).take (j - i) = [] := List.eq_nil_of_length_eq_zero (by rw [hll]; omega)
      rw [e1, hz]
      refine ⟨rfl, _, c - i, rfl, by simp, by omega, fun e => ?_, fun ad e j u hu => by simp [bv] at hu⟩
      have := q3 (by cases a with | none => rfl | some a => cases e)
      omega
    · obtain ⟨a'', c'', e'', -, -, -, hop⟩ := h.open
      simp only [Value.slice.injEq] at e''
      obtain ⟨rfl, -, rfl⟩ := e''
      obtain ⟨b, o, rfl, -⟩ := hop (by omega)
      have := bs_cut h i j hij hj
      rw [Option.map_some, Addr.add_lit]
      exact this
theorem bs_pre {w : World} {a : Option Addr} {c : Nat} {l : List UInt8} (h : Bs w (.slice a l.length c) l) {p : Nat} (hp : p ≤ l.length) : Bs w (.slice a p c) (l.take p) := bs_take h p hp
theorem bs_suf {w : World} {a : Option Addr} {c : Nat} {l : List UInt8} (h : Bs w (.slice a l.length c) l) {q : Nat} (hq : q ≤ l.length) (v : Value)
    (hv : (c = q ∧ v = .slice a (l.length - q) (c - q)) ∨ v = .slice (a.map fun x => x.add q) (l.length - q) (c - q)) : Bs w v (l.drop q) := by
  have := bs_piece h (i := q) (j := l.length) hq (Nat.le_refl _) v (by rcases hv with h | h; exact .inr (.inl h); exact .inr (.inr h))
  rwa [List.take_of_length_le (by rw [List.length_drop]; exact Nat.le_refl _)] at this
/-- what One returns -/
def OneP (b : List UInt8) (e : Ed) (w : World) (x : Ending) (w' : World) : Prop := ∃ v', x = .returned v' ∧ Bs w' v' ((oneM b e).take 1048576) ∧ Grew w w'
theorem bs_min {w : World} {a : Option Addr} {c : Nat} {L : List UInt8} (h : Bs w (.slice a L.length c) L) : Bs w (.slice a (min L.length 1048576) c) (L.take 1048576) := by
  have := bs_take h (min L.length 1048576) (by omega)
  rwa [show L.take (min L.length 1048576) = L.take 1048576 by rw [List.take_eq_take_iff]; omega] at this
set_option maxRecDepth 100000 in
set_option maxHeartbeats 8000000 in
theorem r16one_0 (b : List UInt8) (e : Ed) (vb ve : Value) (w : World) (hb : Bs w vb b) (he : Bs w ve e.bytes) (hok : e.ok) (hlen : b.length ≤ 1048576) (h1 : e.kind ≠ 1) (h2 : e.kind ≠ 2) (h3 : e.kind ≠ 3) (h4 : e.kind ≠ 4) (h5 : e.kind ≠ 5) :
    Calls Try.prog 11 #[vb, .int .i64 e.kind, .int .i64 e.at', .int .i64 e.n, .int .i64 e.to, ve] w (OneP b e w) := by
  obtain ⟨kd, at', n, to, bytes⟩ := e
  simp only at h1 h2 h3 h4 h5
  obtain ⟨-, ok2, ok3, ok4, ok5⟩ := hok
  simp only at ok2 ok3 ok4 ok5 he
  obtain ⟨ab, cb, rfl, hc1, hc2, -, -⟩ := hb.open
  unfold maxLen at hc2
  obtain ⟨ae, ce, rfl⟩ := bs_len he
  obtain ⟨e, hed⟩ : ∃ e : Ed, e = ⟨kd, at', n, to, bytes⟩ := ⟨_, rfl⟩
  have hp := eAt_le b e
  have hc := eN_le b e
  have e1 : restN at' (b.length + 1) = eAt b e := by rw [hed]; rfl
  have e2 : restN n (b.length - eAt b e + 1) = eN b e := by rw [hed]; rfl
  have K1 := Lib.hid (fun W kI hkI => r16rest_any at' kI (b.length + 1) hkI (by omega) (by omega) ok2.1 ok2.2 W)
  have K2 := Lib.hid (fun W kI hkI => r16rest_any n kI (b.length - eAt b e + 1) hkI (by omega) (by omega) ok3.1 ok3.2 W)
  rw [e1] at K1
  rw [e2] at K2
  have hol := oneM_len b e
  rw [← hed]
  simp only [hed]
  rw [← hed]
  have HB := Lib.hid hb
  have HE := Lib.hid he
  have hM : oneM b e = b := by unfold oneM; rw [hed]; simp only [h1, h2, h3, h4, h5, if_false]
  have htk : (oneM b e).take 1048576 = b := by rw [hM]; exact List.take_of_length_le hlen
  have hqb : min (b.length : Int) 1048576 = (b.length : Int) := by omega
  obtain ⟨L, hL⟩ : ∃ L, L = oneM b e := ⟨_, rfl⟩
  rw [← hL] at hM hol htk
  have HM := Lib.hid hM
  have HTK := Lib.hid htk
  clear htk
  unfold OneP
  rw [← hL]
  clear hM e1 e2 hb he hL
  generalize hpp : eAt b e = p at *
  generalize hcc : eN b e = c at *
  clear hpp hcc hed
  have hq0 : (min (L.length : Int) 1048576).toNat = min L.length 1048576 := by omega
  have hq1 : (0 : Int) ≤ min (L.length : Int) 1048576 := by omega
  have z1 : (p : Int) ≤ (b.length : Int) := by omega
  have z2 : (p : Int) + (c : Int) ≤ (b.length : Int) := by omega
  have z4 : (p : Int) + (c : Int) ≤ (cb : Int) := by omega
  have z5 : (p : Int) ≤ (cb : Int) := by omega
  have z6 : ((p : Int) + (c : Int)).toNat = p + c := by omega
  have z7 : IntKind.i64.wrap ((p : Int) + (c : Int)) = (p : Int) + (c : Int) := by rw [IntKind.wrap_i64]; omega
  have z8 : (0 : Int) ≤ (p : Int) + (c : Int) := by omega
  have z9 : (p : Int) ≤ (p : Int) + (c : Int) := by omega
  go_enter Try.func11, Try.ntmps11
  go_wp2_with fail
  refine (K1.out _ _ (by omega)).mono ?_
  rintro x w1 ⟨rfl, rfl⟩
  go_wp2_with fail
  refine (K2.out _ _ (by omega)).mono ?_
  rintro x w1 ⟨rfl, rfl⟩
  go_wp2
  go_ret
  exact ⟨_, rfl, by rw [HTK.out]; exact HB.out, Below.refl _ _⟩
set_option maxRecDepth 100000 in
set_option maxHeartbeats 8000000 in
theorem r16one_1 (b : List UInt8) (e : Ed) (vb ve : Value) (w : World) (hb : Bs w vb b) (he : Bs w ve e.bytes) (hok : e.ok) (hlen : b.length ≤ 1048576) (hk : e.kind = 1) :
    Calls Try.prog 11 #[vb, .int .i64 e.kind, .int .i64 e.at', .int .i64 e.n, .int .i64 e.to, ve] w (OneP b e w) := by
  obtain ⟨kd, at', n, to, bytes⟩ := e
  obtain rfl : kd = 1 := hk
  obtain ⟨-, ok2, ok3, ok4, ok5⟩ := hok
  simp only at ok2 ok3 ok4 ok5 he
  obtain ⟨ab, cb, rfl, hc1, hc2, -, -⟩ := hb.open
  unfold maxLen at hc2
  obtain ⟨ae, ce, rfl⟩ := bs_len he
  obtain ⟨e, hed⟩ : ∃ e : Ed, e = ⟨1, at', n, to, bytes⟩ := ⟨_, rfl⟩
  have hp := eAt_le b e
  have hc := eN_le b e
  have e1 : restN at' (b.length + 1) = eAt b e := by rw [hed]; rfl
  have e2 : restN n (b.length - eAt b e + 1) = eN b e := by rw [hed]; rfl
  have K1 := Lib.hid (fun W kI hkI => r16rest_any at' kI (b.length + 1) hkI (by omega) (by omega) ok2.1 ok2.2 W)
  have K2 := Lib.hid (fun W kI hkI => r16rest_any n kI (b.length - eAt b e + 1) hkI (by omega) (by omega) ok3.1 ok3.2 W)
  rw [e1] at K1
  rw [e2] at K2
  have hol := oneM_len b e
  rw [← hed]
  simp only [hed]
  rw [← hed]
  have HB := Lib.hid hb
  have HE := Lib.hid he
  have hM : oneM b e = flipB b (eAt b e) (restN to 8) := by
    unfold oneM
    rw [hed]
    simp only [if_true]
  have hj := restN_lt to (k := 8) (by omega)
  have K5 := Lib.hid (fun W kI hkI => r16rest_any to kI 8 hkI (by omega) (by omega) ok4.1 ok4.2 W)
  generalize restN to 8 = j at hM K5 hj
  have hqb : min (b.length : Int) 1048576 = (b.length : Int) := by omega
  obtain ⟨L, hL⟩ : ∃ L, L = oneM b e := ⟨_, rfl⟩
  rw [← hL] at hM hol
  have HM := Lib.hid hM
  unfold OneP
  rw [← hL]
  clear hM e1 e2 hb he hL
  generalize hpp : eAt b e = p at *
  generalize hcc : eN b e = c at *
  clear hpp hcc hed
  have hq0 : (min (L.length : Int) 1048576).toNat = min L.length 1048576 := by omega
  have hq1 : (0 : Int) ≤ min (L.length : Int) 1048576 := by omega
  have z1 : (p : Int) ≤ (b.length : Int) := by omega
  have z2 : (p : Int) + (c : Int) ≤ (b.length : Int) := by omega
  have z4 : (p : Int) + (c : Int) ≤ (cb : Int) := by omega
  have z5 : (p : Int) ≤ (cb : Int) := by omega
  have z6 : ((p : Int) + (c : Int)).toNat = p + c := by omega
  have z7 : IntKind.i64.wrap ((p : Int) + (c : Int)) = (p : Int) + (c : Int) := by rw [IntKind.wrap_i64]; omega
  have z8 : (0 : Int) ≤ (p : Int) + (c : Int) := by omega
  have z9 : (p : Int) ≤ (p : Int) + (c : Int) := by omega
  go_enter Try.func11, Try.ntmps11
  go_wp2_with fail
  refine (K1.out _ _ (by omega)).mono ?_
  rintro x w1 ⟨rfl, rfl⟩
  go_wp2_with fail
  refine (K2.out _ _ (by omega)).mono ?_
  rintro x w1 ⟨rfl, rfl⟩
  go_wp2_with fail
  refine (join_any b [] _ _ w HB.out (Sl.nil _ 1) (by simp; omega)).mono ?_
  rintro x w2 ⟨v2, rfl, o2, g2⟩
  rw [List.append_nil] at o2
  obtain ⟨a2, c2, rfl, hq2, -⟩ := (Sl.of_own o2).open
  have O2 := Lib.hid o2
  by_cases hlt : p < b.length
  · skip
    obtain ⟨g, cur, rfl, hbg, hg, hcs, ht⟩ : ∃ g cur, a2 = some ⟨g, 0, none⟩ ∧ w.heap.size ≤ g ∧ Blk w2 g 5 cur ∧ cur.size = c2 ∧ cur.toList.take b.length = bv b := by
      rcases o2.2 with ⟨e, e2⟩ | ⟨g, cap, cur, e, hb, hg, hn, hc, hs, ht⟩
      · omega
      · simp only [Value.slice.injEq] at e
        obtain ⟨rfl, -, rfl⟩ := e
        exact ⟨g, cur, rfl, hb, hg, by omega, by simpa using ht⟩
    have y0 : w2.cell? ⟨g, p, none⟩ = some (.int .u8 ((b[p]).toNat : Int)) := by
      rw [hg.cell]
      have h2 : cur.toList[p]? = some (.int .u8 ((b[p]).toNat : Int)) := by
        rw [← List.getElem?_take_of_lt hlt, ht]; exact bv_get b _ hlt
      simpa using h2
    have y1 := hg.frozen p
    have hz9 : ((p : Nat) : Int) < (b.length : Int) := by omega
    have hfl := own_flip (own_grew o2 (Drew.grew ⟨1, rfl⟩ : Grew w2 w2.drew)) hlt hj
    have hLl : L.length = b.length := by rw [HM.out, flip_len]
    have hfl2 : L.take 1048576 = flipB b p j := by rw [HM.out]; exact List.take_of_length_le (by rw [flip_len]; omega)
    have HF := Lib.hid hfl
    have HFL := Lib.hid hfl2
    have HFG := Lib.hid (grew_set (g2.trans (Drew.grew ⟨1, rfl⟩ : Grew w2 w2.drew)) (b := g) (j := p) hbg (.int .u8 (bits .xor .u8 ((b[p].toNat : Nat) : Int) (IntKind.u8.wrap (2 ^ j)))))
    clear o2 hg ht hfl hfl2 hLl
    go_wp2_with fail
    go_region_with (go_at_call 20; refine (K5.out _ _ rfl).mono ?_; rintro x w3 ⟨rfl, rfl⟩)
    all_goals go_wp2
    all_goals (
      go_ret
      exact ⟨_, rfl, by rw [HFL.out]; exact Sl.of_own (HF.out : OwnB (w2.drew.setCell ⟨g, p, none⟩ _) _ _ _), HFG.out⟩)
  · have hfe : flipB b p j = b := flip_end (by omega)
    have hfl2 : L.take 1048576 = b := by rw [HM.out, hfe]; exact List.take_of_length_le hlen
    have HFL := Lib.hid hfl2
    have hz9 : (b.length : Int) ≤ ((p : Nat) : Int) := by omega
    clear o2 hfl2 hfe
    go_wp2
    go_ret
    exact ⟨_, rfl, by rw [HFL.out]; exact Sl.of_own O2.out, g2⟩
set_option maxRecDepth 100000 in
set_option maxHeartbeats 8000000 in
theorem r16one_2 (b : List UInt8) (e : Ed) (vb ve : Value) (w : World) (hb : Bs w vb b) (he : Bs w ve e.bytes) (hok : e.ok) (hlen : b.length ≤ 1048576) (hk : e.kind = 2) :
    Calls Try.prog 11 #[vb, .int .i64 e.kind, .int .i64 e.at', .int .i64 e.n, .int .i64 e.to, ve] w (OneP b e w) := by
  obtain ⟨kd, at', n, to, bytes⟩ := e
  obtain rfl : kd = 2 := hk
  obtain ⟨-, ok2, ok3, ok4, ok5⟩ := hok
  simp only at ok2 ok3 ok4 ok5 he
  obtain ⟨ab, cb, rfl, hc1, hc2, -, -⟩ := hb.open
  unfold maxLen at hc2
  obtain ⟨ae, ce, rfl⟩ := bs_len he
  obtain ⟨e, hed⟩ : ∃ e : Ed, e = ⟨2, at', n, to, bytes⟩ := ⟨_, rfl⟩
  have hp := eAt_le b e
  have hc := eN_le b e
  have e1 : restN at' (b.length + 1) = eAt b e := by rw [hed]; rfl
  have e2 : restN n (b.length - eAt b e + 1) = eN b e := by rw [hed]; rfl
  have K1 := Lib.hid (fun W kI hkI => r16rest_any at' kI (b.length + 1) hkI (by omega) (by omega) ok2.1 ok2.2 W)
  have K2 := Lib.hid (fun W kI hkI => r16rest_any n kI (b.length - eAt b e + 1) hkI (by omega) (by omega) ok3.1 ok3.2 W)
  rw [e1] at K1
  rw [e2] at K2
  have hol := oneM_len b e
  rw [← hed]
  simp only [hed]
  rw [← hed]
  have HB := Lib.hid hb
  have HE := Lib.hid he
  have hM : oneM b e = b.take (eAt b e) ++ b.drop (eAt b e + eN b e) := by unfold oneM eLeft; rw [hed]; simp only [show ¬ ((2 : Int) = 1) by decide, if_false, if_true]
  obtain ⟨L, hL⟩ : ∃ L, L = oneM b e := ⟨_, rfl⟩
  rw [← hL] at hM hol
  have HM := Lib.hid hM
  unfold OneP
  rw [← hL]
  clear hM e1 e2 hb he hL
  generalize hpp : eAt b e = p at *
  generalize hcc : eN b e = c at *
  clear hpp hcc hed
  have hq0 : (min (L.length : Int) 1048576).toNat = min L.length 1048576 := by omega
  have hq1 : (0 : Int) ≤ min (L.length : Int) 1048576 := by omega
  have z1 : (p : Int) ≤ (b.length : Int) := by omega
  have z2 : (p : Int) + (c : Int) ≤ (b.length : Int) := by omega
  have z4 : (p : Int) + (c : Int) ≤ (cb : Int) := by omega
  have z5 : (p : Int) ≤ (cb : Int) := by omega
  have z6 : ((p : Int) + (c : Int)).toNat = p + c := by omega
  have z7 : IntKind.i64.wrap ((p : Int) + (c : Int)) = (p : Int) + (c : Int) := by rw [IntKind.wrap_i64]; omega
  have z8 : (0 : Int) ≤ (p : Int) + (c : Int) := by omega
  have z9 : (p : Int) ≤ (p : Int) + (c : Int) := by omega
  rcases Nat.decEq cb (p + c) with hq | hq
  · go_enter Try.func11, Try.ntmps11
    go_wp2_with fail
    refine (K1.out _ _ (by omega)).mono ?_
    rintro x w1 ⟨rfl, rfl⟩
    go_wp2_with fail
    refine (K2.out _ _ (by omega)).mono ?_
    rintro x w1 ⟨rfl, rfl⟩
    go_wp2_with fail
    go_region_with (go_at_call 12; refine (join_any (b.take p) (b.drop (p + c)) _ _ _ ((bs_pre HB.out hp).grew (Drew.grew ⟨1, rfl⟩)) ((bs_suf HB.out hc _ (by first | exact .inr rfl | exact .inl ⟨rfl, by simp only [Value.slice.injEq, true_and]; omega⟩)).grew (Drew.grew ⟨1, rfl⟩)) (by simp; omega)).mono ?_; rintro x w2 ⟨v2, rfl, o2, g2⟩; rw [← HM.out] at o2; obtain ⟨a2, c2, rfl, hq2, -⟩ := (Sl.of_own o2).open; have O2 := Lib.hid o2; clear o2)
    all_goals (
      have hm2 : min (L.length : Int) 1048576 ≤ (c2 : Int) := by omega
      go_wp2
      go_ret
      exact ⟨_, rfl, bs_min (Sl.of_own O2.out), (Drew.grew ⟨1, rfl⟩ : Grew w w.drew).trans g2⟩)
  · obtain rfl : cb = p + c := hq
    go_enter Try.func11, Try.ntmps11
    go_wp2_with fail
    refine (K1.out _ _ (by omega)).mono ?_
    rintro x w1 ⟨rfl, rfl⟩
    go_wp2_with fail
    refine (K2.out _ _ (by omega)).mono ?_
    rintro x w1 ⟨rfl, rfl⟩
    go_wp2_with fail
    go_region_with (go_at_call 12; refine (join_any (b.take p) (b.drop (p + c)) _ _ _ ((bs_pre HB.out hp).grew (Drew.grew ⟨1, rfl⟩)) ((bs_suf HB.out hc _ (by first | exact .inr rfl | exact .inl ⟨rfl, by simp only [Value.slice.injEq, true_and]; omega⟩)).grew (Drew.grew ⟨1, rfl⟩)) (by simp; omega)).mono ?_; rintro x w2 ⟨v2, rfl, o2, g2⟩; rw [← HM.out] at o2; obtain ⟨a2, c2, rfl, hq2, -⟩ := (Sl.of_own o2).open; have O2 := Lib.hid o2; clear o2)
    all_goals (
      have hm2 : min (L.length : Int) 1048576 ≤ (c2 : Int) := by omega
      go_wp2
      go_ret
      exact ⟨_, rfl, bs_min (Sl.of_own O2.out), (Drew.grew ⟨1, rfl⟩ : Grew w w.drew).trans g2⟩)
set_option maxRecDepth 100000 in
set_option maxHeartbeats 8000000 in
theorem r16one_3 (b : List UInt8) (e : Ed) (vb ve : Value) (w : World) (hb : Bs w vb b) (he : Bs w ve e.bytes) (hok : e.ok) (hlen : b.length ≤ 1048576) (hk : e.kind = 3) :
    Calls Try.prog 11 #[vb, .int .i64 e.kind, .int .i64 e.at', .int .i64 e.n, .int .i64 e.to, ve] w (OneP b e w) := by
  obtain ⟨kd, at', n, to, bytes⟩ := e
  obtain rfl : kd = 3 := hk
  obtain ⟨-, ok2, ok3, ok4, ok5⟩ := hok
  simp only at ok2 ok3 ok4 ok5 he
  obtain ⟨ab, cb, rfl, hc1, hc2, -, -⟩ := hb.open
  unfold maxLen at hc2
  obtain ⟨ae, ce, rfl⟩ := bs_len he
  obtain ⟨e, hed⟩ : ∃ e : Ed, e = ⟨3, at', n, to, bytes⟩ := ⟨_, rfl⟩
  have hp := eAt_le b e
  have hc := eN_le b e
  have e1 : restN at' (b.length + 1) = eAt b e := by rw [hed]; rfl
  have e2 : restN n (b.length - eAt b e + 1) = eN b e := by rw [hed]; rfl
  have K1 := Lib.hid (fun W kI hkI => r16rest_any at' kI (b.length + 1) hkI (by omega) (by omega) ok2.1 ok2.2 W)
  have K2 := Lib.hid (fun W kI hkI => r16rest_any n kI (b.length - eAt b e + 1) hkI (by omega) (by omega) ok3.1 ok3.2 W)
  rw [e1] at K1
  rw [e2] at K2
  have hol := oneM_len b e
  rw [← hed]
  simp only [hed]
  rw [← hed]
  have HB := Lib.hid hb
  have HE := Lib.hid he
  have hM : oneM b e = b.take (eAt b e + eN b e) ++ b.drop (eAt b e) := by unfold oneM; rw [hed]; simp only [show ¬ ((3 : Int) = 1) by decide, show ¬ ((3 : Int) = 2) by decide, if_false, if_true]
  obtain ⟨L, hL⟩ : ∃ L, L = oneM b e := ⟨_, rfl⟩
  rw [← hL] at hM hol
  have HM := Lib.hid hM
  unfold OneP
  rw [← hL]
  clear hM e1 e2 hb he hL
  generalize hpp : eAt b e = p at *
  generalize hcc : eN b e = c at *
  clear hpp hcc hed
  have hq0 : (min (L.length : Int) 1048576).toNat = min L.length 1048576 := by omega
  have hq1 : (0 : Int) ≤ min (L.length : Int) 1048576 := by omega
  have z1 : (p : Int) ≤ (b.length : Int) := by omega
  have z2 : (p : Int) + (c : Int) ≤ (b.length : Int) := by omega
  have z4 : (p : Int) + (c : Int) ≤ (cb : Int) := by omega
  have z5 : (p : Int) ≤ (cb : Int) := by omega
  have z6 : ((p : Int) + (c : Int)).toNat = p + c := by omega
  have z7 : IntKind.i64.wrap ((p : Int) + (c : Int)) = (p : Int) + (c : Int) := by rw [IntKind.wrap_i64]; omega
  have z8 : (0 : Int) ≤ (p : Int) + (c : Int) := by omega
  have z9 : (p : Int) ≤ (p : Int) + (c : Int) := by omega
  rcases Nat.decEq cb p with hq | hq
  · go_enter Try.func11, Try.ntmps11
    go_wp2_with fail
    refine (K1.out _ _ (by omega)).mono ?_
    rintro x w1 ⟨rfl, rfl⟩
    go_wp2_with fail
    refine (K2.out _ _ (by omega)).mono ?_
    rintro x w1 ⟨rfl, rfl⟩
    go_wp2_with fail
    go_region_with (go_at_call 12; refine (join_any (b.take (p + c)) (b.drop p) _ _ _ ((bs_pre HB.out hc).grew (Drew.grew ⟨1, rfl⟩)) ((bs_suf HB.out hp _ (by first | exact .inr rfl | exact .inl ⟨rfl, by simp only [Value.slice.injEq, true_and]; omega⟩)).grew (Drew.grew ⟨1, rfl⟩)) (by simp; omega)).mono ?_; rintro x w2 ⟨v2, rfl, o2, g2⟩; rw [← HM.out] at o2; obtain ⟨a2, c2, rfl, hq2, -⟩ := (Sl.of_own o2).open; have O2 := Lib.hid o2; clear o2)
    all_goals (
      have hm2 : min (L.length : Int) 1048576 ≤ (c2 : Int) := by omega
      go_wp2
      go_ret
      exact ⟨_, rfl, bs_min (Sl.of_own O2.out), (Drew.grew ⟨1, rfl⟩ : Grew w w.drew).trans g2⟩)
  · obtain rfl : p = cb := hq.symm
    go_enter Try.func11, Try.ntmps11
    go_wp2_with fail
    refine (K1.out _ _ (by omega)).mono ?_
    rintro x w1 ⟨rfl, rfl⟩
    go_wp2_with fail
    refine (K2.out _ _ (by omega)).mono ?_
    rintro x w1 ⟨rfl, rfl⟩
    go_wp2_with fail
    go_region_with (go_at_call 12; refine (join_any (b.take (p + c)) (b.drop p) _ _ _ ((bs_pre HB.out hc).grew (Drew.grew ⟨1, rfl⟩)) ((bs_suf HB.out hp _ (by first | exact .inr rfl | exact .inl ⟨rfl, by simp only [Value.slice.injEq, true_and]; omega⟩)).grew (Drew.grew ⟨1, rfl⟩)) (by simp; omega)).mono ?_; rintro x w2 ⟨v2, rfl, o2, g2⟩; rw [← HM.out] at o2; obtain ⟨a2, c2, rfl, hq2, -⟩ := (Sl.of_own o2).open; have O2 := Lib.hid o2; clear o2)
    all_goals (
      have hm2 : min (L.length : Int) 1048576 ≤ (c2 : Int) := by omega
      go_wp2
      go_ret
      exact ⟨_, rfl, bs_min (Sl.of_own O2.out), (Drew.grew ⟨1, rfl⟩ : Grew w w.drew).trans g2⟩)
end Go.Proofs.Ytoinndlialimcaa
