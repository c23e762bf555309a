/- WholeTypes: plain laws and the walk. -/
import Derived.Test.YtgoaijpckckdnaaWh4
import Derived.Test.YtgoaijpckckdnaaSchP
import Derived.Test.YtgoaijpckckdnaaSkW
import Derived.Test.YtgoaijpckckdnaaSkG
namespace Go.Proofs.Ytgoaijpckckdnaa
open Go Go.RowKit Go.Shelf
attribute [local go_sem] Oper.semAt_some

/-- a row's wire type -/
def tyW (r : Row) : Nat := (wireV r.2.2.1).1.toNat
/-- the field of a row: a number, or bytes -/
def tyF (n : Nat) (t : List UInt8) (r : Row) : Fld := (r.2.1, tyW r, if tyW r = 2 then 0 else n, if tyW r = 2 then t else [], 0)
def tyV (vt : Value) (r : Row) : Value := if tyW r = 2 then vt else .slice none 0 0
theorem rows_types : ∀ r ∈ rowsAll, 1 ≤ r.2.1 ∧ r.2.1 ≤ 15 ∧ wireV r.2.2.1 = ((tyW r : Int), true) ∧ wireB (tyW r) = true ∧ decide (mostV r.2.2.1 > 0) = (tyW r == 2) := by decide +kernel
theorem rows_find : ∀ v ∈ [(1 : Int), 2, 3], ∀ r ∈ rowsIn v, (rowsIn v).find? (isField r.1 r.2.1) = some r := by decide +kernel
theorem rowsIn_all {v : Int} {r : Row} (h : r ∈ rowsIn v) : r ∈ rowsAll ∧ v ∈ [(1 : Int), 2, 3] := by
  unfold rowsIn at h
  by_cases hv : v < 1 ∨ 3 < v
  · rw [if_pos hv] at h; simp at h
  · rw [if_neg hv] at h
    refine ⟨(List.mem_filter.1 h).1, ?_⟩
    have : v = 1 ∨ v = 2 ∨ v = 3 := by omega
    rcases this with rfl | rfl | rfl <;> simp
theorem ofKind_find {k : Nat} {v : Int} {r : Row} (h : r ∈ ofKind k (rowsIn v)) : (rowsIn v).find? (isField k r.2.1) = some r := by
  obtain ⟨h1, h2⟩ := List.mem_filter.1 h
  have e : r.1 = k := by simpa using h2
  rw [← e]
  exact rows_find v (rowsIn_all h1).2 r h1
theorem tyF_ok {n : Nat} {t : List UInt8} {r : Row} (hr : r ∈ rowsAll) (hn : n < 4294967296) (ht : t.length ≤ 200) : (tyF n t r).ok ∧ (putF (tyF n t r)).2 = 0 ∧ bareF (tyF n t r) = tyF n t r ∧ (fB (tyF n t r)).length ≤ 200 := by
  obtain ⟨h1, h2, -, h4, -⟩ := rows_types r hr
  obtain ⟨W, hW⟩ : ∃ W, W = tyW r := ⟨_, rfl⟩
  unfold tyF
  rw [← hW] at h4 ⊢
  have hw := wireB_or h4
  have hmk : tmake (r.2.1 : Int) W = (8 * r.2.1 + W, 0) := by
    unfold tmake
    rw [if_neg (by omega), h4]
    simp
  refine ⟨⟨?_, ?_, ?_, ?_⟩, ?_, ?_, ?_⟩
  · show -9223372036854775808 ≤ (r.2.1 : Int); omega
  · show (r.2.1 : Int) ≤ 9223372036854775807; omega
  · show W < 256; omega
  · show (if W = 2 then 0 else n) < 18446744073709551616; split <;> omega
  · unfold putF
    simp only [fNum, fWire, fB]
    rw [hmk, if_neg (fun h => h rfl), if_neg (by rintro ⟨e, h⟩; rw [if_pos e] at h; omega)]
  · unfold bareF
    simp only [fWire, fNum, fN, fB, fAt]
    rcases hw with rfl | rfl | rfl | rfl
    · rfl
    · rfl
    · rfl
    · simp; omega
  · show (if W = 2 then t else []).length ≤ 200
    split
    · exact ht
    · exact Nat.zero_le _
theorem putsF_good : ∀ (fs : List Fld) (i : Nat), (∀ x ∈ fs, (putF x).2 = 0) → (putsF i fs).2.1 = 0
  | [], i, _ => rfl
  | x :: fs, i, h => by
    rw [putsF_cons, if_neg (by have := h x (List.mem_cons_self ..); omega), if_neg (by have := putsF_good fs (i + 1) (fun y hy => h y (List.mem_cons_of_mem _ hy)); omega)]
set_option maxRecDepth 100000 in
set_option maxHeartbeats 8000000 in
theorem wtypes_walk (kind : Nat) (ver : Int) (n : Nat) (t : List UInt8) (v : Value) (w : World) (hn : n < 4294967296) (hb : Bs w v t) :
    Calls Try.prog 15 #[.int .u8 kind, .int .i64 ver, .int .u32 n, v] w fun e w' => e = .returned (.bool true) ∧ Grew w w' := by
  obtain ⟨a, c, rfl⟩ := bs_len hb
  have HB := Lib.hid hb
  clear hb
  go_enter Try.func15, Try.ntmps15
  go_wp2_with fail
  refine (awakeSeal_any w).mono ?_
  rintro e w1 ⟨rfl, g1⟩
  by_cases hl : 200 < t.length
  · have hd : decide ((t.length : Int) > 200) = true := by simp; omega
    clear hl
    go_wp2
    go_ret
    exact ⟨rfl, g1⟩
  have hd : decide ((t.length : Int) > 200) = false := by simp; omega
  have ht : t.length ≤ 200 := by omega
  clear hl
  have ko := of_any kind ver w1
  have HLF := Lib.hid (fun r (h : r ∈ ofKind kind (rowsIn ver)) => ofKind_find h)
  have HLA := Lib.hid (fun r (h : r ∈ ofKind kind (rowsIn ver)) => (rowsIn_all (List.mem_filter.1 h).1).1)
  have hLL : (ofKind kind (rowsIn ver)).length ≤ 40 := Nat.le_trans (List.length_filter_le _ _) (rowsIn_len ver)
  obtain ⟨L, hL⟩ : ∃ L, L = ofKind kind (rowsIn ver) := ⟨_, rfl⟩
  rw [← hL] at ko HLF HLA hLL
  have KO := Lib.hid ko
  clear ko hL
  go_wp2_with fail
  refine KO.out.mono ?_
  rintro e w2 ⟨v2, rfl, o2, g2⟩
  obtain ⟨a2, c2, rfl, l1, l2, -, hcell⟩ := (Sl.of_own o2).open
  have G2 := g1.trans g2
  have HCE := Lib.hid hcell
  unfold maxLen at l2
  clear o2 hcell
  go_wp2
  go_loopw [11, 12] (fun vo i wr => ∃ k : Nat, k ≤ L.length ∧ i = .int .i64 k ∧ OwnF wr w2.heap.size vo ((L.take k).map fun r => (tyF n t r, tyV (.slice a t.length c) r)) ∧ Grew w2 wr) (fun _ i _ => L.length - (intOf i).toNat)
  case atStart => exact ⟨0, by omega, rfl, World.ownsRow_nil _ _ _ _, Below.refl _ _⟩
  case round =>
    obtain ⟨k, hk, rfl, ho, hg⟩ := hrel
    obtain ⟨F, hF⟩ : ∃ F, F = (L.take k).map fun r => (tyF n t r, tyV (.slice a t.length c) r) := ⟨_, rfl⟩
    rw [← hF] at ho
    have hFl : F.length = k := by rw [hF]; simp; omega
    have HF := Lib.hid hF
    have HO := Lib.hid ho
    have HFL := Lib.hid hFl
    obtain ⟨oa, oc, rfl, -⟩ := (Sl.of_own ho).open
    clear hF ho hFl
    by_cases hlt : k < L.length
    · obtain ⟨b, off, rfl, hc⟩ := HCE.out (by omega)
      obtain ⟨kd, nm, ty, sl, si, hrow⟩ : ∃ kd nm ty sl si, L[k] = (kd, nm, ty, sl, si) := ⟨_, _, _, _, _, rfl⟩
      have hgi : ∀ x, x < 3 → (specsV L)[k * 3 + x]? = (specV (kd, nm, ty, sl, si))[x]? := fun x hx => by rw [← hrow]; exact flat_at (f := specV) (k := 3) (fun _ => rfl) L k hlt x hx
      have c0 := (below_ext hg) _ _ (hc _ _ (hgi 0 (by omega)))
      have c1 := (below_ext hg) _ _ (hc _ _ (hgi 1 (by omega)))
      simp only [Nat.add_zero, ← Nat.add_assoc] at c0 c1
      obtain ⟨p1, p2, p3, p4, p5⟩ := rows_types L[k] (HLA.out _ (List.getElem_mem hlt))
      have hts : (L.take (k + 1)).map (fun r => (tyF n t r, tyV (.slice a t.length c) r)) = F ++ [(tyF n t L[k], tyV (.slice a t.length c) L[k])] := by
        rw [List.take_succ_eq_append_getElem hlt, List.map_append, HF.out]; rfl
      obtain ⟨W, hW⟩ : ∃ W, W = tyW L[k] := ⟨_, rfl⟩
      rw [← hW] at p3 p4 p5
      have hty : tyF n t L[k] = ((nm : Int), W, (if W = 2 then 0 else n), (if W = 2 then t else []), 0) := by unfold tyF; rw [← hW, hrow]
      have htv : tyV (.slice a t.length c) L[k] = if W = 2 then .slice a t.length c else .slice none 0 0 := by unfold tyV; rw [← hW]
      rw [hty, htv] at hts
      rw [hrow] at p3 p5
      simp only at p3 p5
      have HTS := Lib.hid hts
      have kw := wire_any (ty : Int) wr
      rw [p3] at kw
      have km := fun W => most_any (ty : Int) W
      obtain ⟨m, hm⟩ : ∃ m, m = mostV (ty : Int) := ⟨_, rfl⟩
      rw [← hm] at km p5
      have KW := Lib.hid kw
      have KM := Lib.hid km
      have z1 : (k : Int) < (L.length : Int) := by omega
      have z0 : (0 : Int) ≤ (k : Int) := by omega
      clear hgi hc hrow hts hW hty htv kw km hm p1 p2 p3
      go_wp2_with fail
      refine KW.out.mono ?_
      rintro e w3 ⟨rfl, rfl⟩
      go_wp2_with fail
      refine (KM.out _).mono ?_
      rintro e w3 ⟨rfl, rfl⟩
      by_cases hw2 : W = 2
      · subst hw2
        have q5 : decide (m > 0) = true := by rw [p5]; rfl
        have hF9 := HTS.out
        rw [if_pos rfl, if_pos rfl, if_pos rfl] at hF9
        have HF9 := Lib.hid hF9
        have gA := grew_alloc wr (.cells #[.int .i64 nm, .int .u8 2, .int .u64 0, .slice a t.length c, .int .i64 0] 39)
        have gB := gA.trans (grew_alloc _ (.cells #[.int .i64 nm, .int .u8 2, .int .u64 0, .slice a t.length c, .int .i64 0] 39))
        have hsl : Sl ((wr.alloc (.cells #[.int .i64 nm, .int .u8 2, .int .u64 0, .slice a t.length c, .int .i64 0] 39)).alloc (.cells #[.int .i64 nm, .int .u8 2, .int .u64 0, .slice a t.length c, .int .i64 0] 39)) (.slice (some ⟨wr.heap.size + 1, 0, none⟩) 1 1) 1 5 (ffv (((nm : Int), 2, 0, t, 0), .slice a t.length c)) := by
          have h := Sl.lit (wr.alloc (.cells #[.int .i64 nm, .int .u8 2, .int .u64 0, .slice a t.length c, .int .i64 0] 39)) 39 (0, 0) #[.int .i64 nm, .int .u8 2, .int .u64 0, .slice a t.length c, .int .i64 0] 1 5 rfl (by unfold maxLen; omega)
          simp only [World.size_alloc] at h
          exact h
        have HSL := Lib.hid hsl
        have HO2 := Lib.hid (own_grew HO.out gB)
        have GB := Lib.hid (hg.trans gB)
        have HBB := Lib.hid ((HB.out.grew (G2.trans hg)).grew gB)
        clear hF9 hsl gA gB p5
        go_wp2_with (at_builtin; refine wpList_pushFo rfl _ _ rfl w2.heap.size (.slice oa F.length oc) F rfl HO2.out _ rfl (((nm : Int), 2, 0, t, 0), .slice a t.length c) HSL.out HBB.out (by have := HFL.out; omega) GB.out.size ?_; intro v' w4 hown4 hB4 hgb)
        refine ⟨⟨k + 1, by omega, by go_num, by rw [HF9.out]; exact hown4, Below.trans GB.out hB4⟩, ?_⟩
        simp [intOf]; omega
      · have q5 : decide (m > 0) = false := by rw [p5]; simpa using hw2
        have q6 : ((W : Int) == 2) = false := by simp; omega
        have hF9 := HTS.out
        rw [if_neg hw2, if_neg hw2, if_neg hw2] at hF9
        have HF9 := Lib.hid hF9
        have gA := grew_alloc wr (.cells #[.int .i64 nm, .int .u8 W, .int .u64 n, .slice none 0 0, .int .i64 0] 39)
        have gB := gA.trans (grew_alloc _ (.cells #[.int .i64 nm, .int .u8 W, .int .u64 n, .slice none 0 0, .int .i64 0] 39))
        have hsl : Sl ((wr.alloc (.cells #[.int .i64 nm, .int .u8 W, .int .u64 n, .slice none 0 0, .int .i64 0] 39)).alloc (.cells #[.int .i64 nm, .int .u8 W, .int .u64 n, .slice none 0 0, .int .i64 0] 39)) (.slice (some ⟨wr.heap.size + 1, 0, none⟩) 1 1) 1 5 (ffv (((nm : Int), W, n, [], 0), .slice none 0 0)) := by
          have h := Sl.lit (wr.alloc (.cells #[.int .i64 nm, .int .u8 W, .int .u64 n, .slice none 0 0, .int .i64 0] 39)) 39 (0, 0) #[.int .i64 nm, .int .u8 W, .int .u64 n, .slice none 0 0, .int .i64 0] 1 5 rfl (by unfold maxLen; omega)
          simp only [World.size_alloc] at h
          exact h
        have HSL := Lib.hid hsl
        have HO2 := Lib.hid (own_grew HO.out gB)
        have GB := Lib.hid (hg.trans gB)
        clear hF9 hsl gA gB p5 hw2
        go_wp2_with (at_builtin; refine wpList_pushFo (l := []) rfl _ _ rfl w2.heap.size (.slice oa F.length oc) F rfl HO2.out _ rfl (((nm : Int), W, n, [], 0), .slice none 0 0) HSL.out (Sl.nil _ 1) (by have := HFL.out; omega) GB.out.size ?_; intro v' w4 hown4 hB4 hgb)
        refine ⟨⟨k + 1, by omega, by go_num, by rw [HF9.out]; exact hown4, Below.trans GB.out hB4⟩, ?_⟩
        simp [intOf]; omega
    · obtain rfl : k = L.length := by omega
      have hF2 := HF.out
      rw [List.take_length] at hF2
      have hmf : F.map (·.1) = L.map (tyF n t) := by rw [hF2, List.map_map]; rfl
      have hall : ∀ x ∈ F.map (·.1), x.ok ∧ (putF x).2 = 0 ∧ bareF x = x ∧ (fB x).length ≤ 200 := fun x hx => by
        rw [hmf] at hx
        obtain ⟨r, hr, rfl⟩ := List.mem_map.1 hx
        exact tyF_ok (HLA.out r hr) hn ht
      have hflF : ∀ W, Grew wr W → FlR W (.slice oa F.length oc) F := fun W hW => ⟨Sl.of_own (own_grew HO.out hW), fun p hp => by
        rw [hF2] at hp
        obtain ⟨r, -, rfl⟩ := List.mem_map.1 hp
        show Bs W (tyV (.slice a t.length c) r) (if tyW r = 2 then t else [])
        unfold tyV
        split
        · exact HB.out.grew ((G2.trans hg).trans hW)
        · exact Sl.nil _ _⟩
      have hPz : (putsF 0 (F.map (·.1))).2.1 = 0 := putsF_good _ 0 (fun x hx => (hall x hx).2.1)
      have hPm := putsF_most (F.map (·.1)) 0 (fun x hx => (hall x hx).1)
      obtain ⟨A3, A4, A5⟩ := fieldsAt_put (F.map (·.1)) (putsF 0 (F.map (·.1))).1 0 0 (fun x hx => (hall x hx).1) hPz (Nat.zero_le _) rfl
      have kp := skPut_any F _ wr (hflF wr (Below.refl _ _)) (fun p hp => by have := hall p.1 (List.mem_map_of_mem hp); exact ⟨this.1, by omega⟩) (by have := HFL.out; omega)
      have HFF := Lib.hid hflF
      have hP2 := putsF_ok _ 0 hPz
      rw [List.length_map] at hPm A4
      obtain ⟨P, hP⟩ : ∃ P, P = putsF 0 (F.map (·.1)) := ⟨_, rfl⟩
      rw [← hP] at kp hP2 hPm A3 A4 A5
      have hP3 : P.2.1 = 0 ∧ P.2.2 = 0 := by rw [hP2]; exact ⟨rfl, rfl⟩
      rw [hP3.1, hP3.2] at kp
      have hlk : ∀ j (h1 : j < (fieldsAt P.1 0).1.length) (h2 : j < F.length), likeF (fieldsAt P.1 0).1[j] F[j].1 = true := fun j h1 h2 => by
        have h := A5 j h1 (by rw [List.length_map]; exact h2)
        rwa [(hall _ (List.getElem_mem (by rw [List.length_map]; exact h2))).2.2.1, List.getElem_map] at h
      have HLK := Lib.hid hlk
      obtain ⟨M, hM⟩ : ∃ M, M = fieldsAt P.1 0 := ⟨_, rfl⟩
      rw [← hM] at A3 A4 HLK
      have hM1 : M.2.1 = 0 ∧ M.2.2 = 0 := by rw [A3]; exact ⟨rfl, rfl⟩
      have km := fun v W hW => sfields_any P.1 v W hW (by have := HFL.out; omega)
      rw [show fieldsR P.1 = fieldsAt P.1 0 from rfl, ← hM, hM1.1, hM1.2] at km
      have HA4 := Lib.hid A4
      have KM := Lib.hid km
      have KP := Lib.hid kp
      have HF2 := Lib.hid hF2
      clear hmf hall hflF hPz hPm A3 A4 A5 kp hP2 hP hP3 hlk hM hM1 km hF2
      go_wp2_with fail
      refine KP.out.mono ?_
      rintro e w4 ⟨v4, rfl, ho4, g4⟩
      obtain ⟨a4, n4, c4, rfl, hn4⟩ := bs_shape (Sl.of_own ho4)
      have f4 := Blk.new w4 27 #[.int .i64 0, .int .i64 0]
      have h4 := grew_alloc w4 (.cells #[.int .i64 0, .int .i64 0] 27)
      have HB4 := Lib.hid ((Sl.of_own ho4).grew h4)
      clear ho4
      go_wp2_with fail
      refine (KM.out _ _ HB4.out).mono ?_
      rintro e w5 ⟨v5, rfl, ⟨qs, hqs, hW5⟩, g5⟩
      obtain ⟨a5, c5, e5, -⟩ := hW5.flr.1.open
      subst e5
      have hql : qs.length = L.length := by have := congrArg List.length hqs; rw [List.length_map] at this; rw [this, HA4.out, HFL.out]
      have hq3 : ((qs.length : Int) != (L.length : Int)) = false := by rw [hql]; simp
      have HQL := Lib.hid hql
      have HQS := Lib.hid hqs
      clear hql hqs
      go_upto_region 20 with (fail)
      obtain ⟨W6, hW6⟩ : ∃ W6, W6 = w5.alloc (.cells #[.int .i64 0, .int .i64 0] 27) := ⟨_, rfl⟩
      rw [← hW6]
      have g6 : Grew w5 W6 := by rw [hW6]; exact grew_alloc _ _
      have f6 : Blk W6 w5.heap.size 27 #[.int .i64 0, .int .i64 0] := by rw [hW6]; exact Blk.new _ _ _
      have f5 := (f4.grew g5).grew g6
      obtain ⟨e0, e1, -⟩ := cells_of f5
      obtain ⟨e2, e3, -⟩ := cells_of f6
      have HQ := Lib.hid (hW5.flr.grew g6)
      have G6 : Grew wr W6 := ((g4.trans h4).trans g5).trans g6
      have GT := Lib.hid ((G2.trans hg).trans G6)
      have HFF6 := Lib.hid (HFF.out W6 G6)
      have HC6 := Lib.hid (hg.trans G6)
      clear hW6 hW5 f4 f5 f6
      go_wp2
      clear e0 e1 e2 e3
      go_loopw [20] (fun i wr => (∃ k : Nat, k ≤ L.length ∧ i = .int .i64 k) ∧ Grew W6 wr) (fun i _ => L.length - (intOf i).toNat)
      case atStart => exact ⟨⟨0, Nat.zero_le _, rfl⟩, Below.refl _ _⟩
      case round =>
        obtain ⟨⟨k, hk2, rfl⟩, hG⟩ := hrel
        by_cases hlt : k < L.length
        · have hlf : k < F.length := by rw [HFL.out]; exact hlt
          have hlq : k < qs.length := by rw [HQL.out]; exact hlt
          have hfp := HFF6.out.grew hG
          have hfq := HQ.out.grew hG
          obtain ⟨_, _, ex, -, -, -, d1⟩ := hfp.1.open
          cases ex
          obtain ⟨b1, o1, rfl, -⟩ := d1 (by omega)
          obtain ⟨_, _, ex, -, -, -, d2⟩ := hfq.1.open
          cases ex
          obtain ⟨b2, o2, rfl, -⟩ := d2 (by omega)
          obtain ⟨b, off, rfl, hc⟩ := HCE.out (by omega)
          obtain ⟨kd, nm, ty, sl, si, hrow⟩ : ∃ kd nm ty sl si, L[k] = (kd, nm, ty, sl, si) := ⟨_, _, _, _, _, rfl⟩
          have hgi : ∀ x, x < 3 → (specsV L)[k * 3 + x]? = (specV (kd, nm, ty, sl, si))[x]? := fun x hx => by rw [← hrow]; exact flat_at (f := specV) (k := 3) (fun _ => rfl) L k hlt x hx
          have c0 := (below_ext (HC6.out.trans hG)) _ _ (hc _ _ (hgi 0 (by omega)))
          have c1 := (below_ext (HC6.out.trans hG)) _ _ (hc _ _ (hgi 1 (by omega)))
          have c2' := (below_ext (HC6.out.trans hG)) _ _ (hc _ _ (hgi 2 (by omega)))
          simp only [Nat.add_zero, ← Nat.add_assoc] at c0 c1 c2'
          obtain ⟨x0, x1, x2, x3, x4, x5⟩ := fl_cells hfp k hlf
          obtain ⟨y0, y1, y2, y3, y4, y5⟩ := fl_cells hfq k hlq
          have hfd := HLF.out L[k] (List.getElem_mem hlt)
          have hFk : F[k].1 = tyF n t L[k] := by simp only [HF2.out, List.getElem_map]
          have hlk : likeF qs[k].1 F[k].1 = true := by
            have h := HLK.out k (by rw [HA4.out, HFL.out]; exact hlt) hlf
            have e1 : M.1[k]'(by rw [HA4.out, HFL.out]; exact hlt) = qs[k].1 := by simp only [← HQS.out, List.getElem_map]
            rw [e1] at h; exact h
          have hnum : qs[k].1.1 = (nm : Int) := by
            have h := (likeF_iff.1 hlk).1
            rw [h, hFk]
            show ((L[k].2.1 : Nat) : Int) = _
            rw [hrow]
          rw [hrow] at hfd
          obtain ⟨⟨X, xv⟩, hr⟩ : ∃ r, r = F[k] := ⟨_, rfl⟩
          obtain ⟨⟨Y, yv⟩, hs⟩ : ∃ r, r = qs[k] := ⟨_, rfl⟩
          rw [← hr] at x0 x1 x2 x3 x4 x5 hlk
          rw [← hs] at y0 y1 y2 y3 y4 y5 hlk hnum
          simp only at x0 x1 x2 x3 x4 x5 y0 y1 y2 y3 y4 y5 hlk hnum hfd
          obtain ⟨xa, xn, xc, rfl, -⟩ := bs_shape x5
          obtain ⟨ya, yn, yc, rfl, -⟩ := bs_shape y5
          have kf := find_any kind ver (nm : Int) wr
          rw [hfd, show foundV (some (kd, nm, ty, sl, si)) = #[.agg #[.int .i64 nm, .int .i64 ty, .int .i64 sl], .bool true] from rfl] at kf
          have KFD := Lib.hid kf
          have y0' := y0
          rw [hnum] at y0'
          have HY0 := Lib.hid y0
          clear y0
          have z1 : (k : Int) < (L.length : Int) := by omega
          have z2 : (k : Int) < (qs.length : Int) := by omega
          have z3 : (k : Int) < (F.length : Int) := by omega
          have z0 : (0 : Int) ≤ (k : Int) := by omega
          clear hgi hc hrow hfd hFk hnum hr hs d1 d2 hfp hfq kf
          go_wp2_with fail
          refine KFD.out.mono ?_
          rintro e w8 ⟨rfl, g8⟩
          go_upto_region 26 with (fail)
          obtain ⟨W9, hW9⟩ : ∃ W9, W9 = w8.alloc (.cells #[.int .i64 nm, .int .i64 ty, .int .i64 sl] 63) := ⟨_, rfl⟩
          rw [← hW9]
          have g9 : Grew w8 W9 := by rw [hW9]; exact grew_alloc _ _
          have b9 : Blk W9 w8.heap.size 63 #[.int .i64 nm, .int .i64 ty, .int .i64 sl] := by rw [hW9]; exact Blk.new _ _ _
          have s0 := b9.cell 0
          have s1 := b9.cell 1
          have s2 := b9.cell 2
          simp only [List.getElem?_toArray, List.getElem?_cons_zero, List.getElem?_cons_succ] at s0 s1 s2
          have G9 := g8.trans g9
          have CS := Lib.hid (fun W (hW : Grew W9 W) => And.intro (below_ext hW _ _ s0) (And.intro (below_ext hW _ _ s1) (below_ext hW _ _ s2)))
          have CL := Lib.hid (fun W (hW : Grew W9 W) => And.intro (below_ext (G9.trans hW) _ _ c0) (And.intro (below_ext (G9.trans hW) _ _ c1) (below_ext (G9.trans hW) _ _ c2')))
          have CX := Lib.hid (fun W (hW : Grew W9 W) => And.intro (below_ext (G9.trans hW) _ _ x0) (And.intro (below_ext (G9.trans hW) _ _ x1) (And.intro (below_ext (G9.trans hW) _ _ x2) (And.intro (below_ext (G9.trans hW) _ _ x3) (below_ext (G9.trans hW) _ _ x4)))))
          have CY := Lib.hid (fun W (hW : Grew W9 W) => And.intro (below_ext (G9.trans hW) _ _ HY0.out) (And.intro (below_ext (G9.trans hW) _ _ y1) (And.intro (below_ext (G9.trans hW) _ _ y2) (And.intro (below_ext (G9.trans hW) _ _ y3) (below_ext (G9.trans hW) _ _ y4)))))
          have kl := fun W (hW : GC W9 W) => like_any Y X _ _ W (y5.grew (G9.trans hW.out)) (x5.grew (G9.trans hW.out))
          rw [hlk] at kl
          have KL := Lib.hid kl
          clear hW9 b9 s0 s1 s2 c0 c1 c2' x0 x1 x2 x3 x4 x5 y0' y1 y2 y3 y4 y5 kl hlk
          refine wp_region_grew W9 (Below.refl _ _) (by kernel_rfl) (by kernel_rfl) ?_
          repeat (
            first
              | go_big_quiet_skip
              | (go_big_quiet_want; go_big_quiet_op; go_big_quiet_on)
              | (refine BigFrame.wpQuiet_want (by kernel_rfl) (fun K hK => ?_)
                 apply Exists.intro
                 apply And.intro
                 · intro W hW
                   obtain ⟨m0, m1, m2⟩ := CS.out W hW.out
                   obtain ⟨n0, n1, n2⟩ := CL.out W hW.out
                   obtain ⟨j0, j1, j2, j3, j4⟩ := CX.out W hW.out
                   obtain ⟨i0, i1, i2, i3, i4⟩ := CY.out W hW.out
                   go_simp
                   first
                     | done
                     | rfl
                     | with_reducible exact q_calls hW (KL.out W hW) (fun _ _ h => h)
                 refine hK _ ?_
                 clear hK K)
            try simp only [Act.put, List.setIfInBounds_toArray, List.set_cons_zero, List.set_cons_succ])
          refine wpQuiet_nil ?_
          intro w6 g6'
          have G10 := Lib.hid ((hG.trans G9).trans g6'.out)
          clear g6'
          go_wp2
          go_roundw
          case rel => exact ⟨⟨k + 1, by omega, by go_num⟩, G10.out⟩
          case measure => simp [intOf]; omega
        · obtain rfl : k = L.length := by omega
          have z9 : ¬ ((L.length : Int) < (qs.length : Int)) := by rw [HQL.out]; omega
          have hbe : (decide (0 < L.length) == decide ((L.length : Int) > 0)) = true := by simp
          go_wp2
          go_ret
          exact ⟨by simp, GT.out.trans hG⟩
end Go.Proofs.Ytgoaijpckckdnaa
