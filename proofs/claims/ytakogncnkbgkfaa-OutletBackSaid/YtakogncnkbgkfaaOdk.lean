/- rescriptlaw05: bytesOf, do, small: contracts. -/
import Derived.Test.YtakogncnkbgkfaaOdo
namespace Go.Proofs.Ytakogncnkbgkfaa
open Go Go.RowKit Go.Shelf
attribute [local go_sem] Oper.semAt_some

theorem askW_len (a : Ask5) (hn : a.n < 18446744073709551616) (hw : a.wire < 256) (hl : a.B.length ≤ 1000) : (askW a).1.length ≤ 2000 := by
  unfold askW
  split
  · have := vput_len10 a.n hn; simp; omega
  split
  · have h := tmake_lt a.num a.wire hw
    have := vput_len10 (tmake a.num a.wire).1 (by omega)
    simp; omega
  split
  · simp [fixB_length]
  split
  · simp [fixB_length]
  split
  · have := vput_len10 a.B.length (by omega); simp; omega
  · simp; omega
/-- the five cells of an ask in a block -/
theorem cells5 {w : World} {b : Nat} {t : TypeId} {c0 c1 c2 c3 c4 : Value} (h : Blk w b t #[c0, c1, c2, c3, c4]) :
    w.cell? ⟨b, 0, none⟩ = some c0 ∧ w.cell? ⟨b, 1, none⟩ = some c1 ∧ w.cell? ⟨b, 2, none⟩ = some c2 ∧ w.cell? ⟨b, 3, none⟩ = some c3 ∧ w.cell? ⟨b, 4, none⟩ = some c4 := by
  refine ⟨?_, ?_, ?_, ?_, ?_⟩
  · simpa using h.cell 0
  · simpa using h.cell 1
  · simpa using h.cell 2
  · simpa using h.cell 3
  · simpa using h.cell 4

set_option maxRecDepth 100000 in
set_option maxHeartbeats 4000000 in
theorem bytesOf5_any (a : Ask5) (w : World) (ha : a.ok w) (hl : a.B.length ≤ 1000) :
    Calls Try.prog 12 #[.agg (ask5V a).toArray] w fun e w' => ∃ v, e = .returned (.tuple #[v, .int .i64 (askW a).2]) ∧ Bs w' v (askW a).1 ∧ Grew w w' := by
  obtain ⟨kd, n, num, wire, vb, B⟩ := a
  obtain ⟨a1, a2, a3, a4, a5, a6⟩ := ha
  simp only at a1 a2 a3 a4 a5 a6 hl
  obtain ⟨av, cv, rfl⟩ := bs_len a6
  have g0 := grew_alloc w (.cells #[.int .u8 kd, .int .u64 n, .int .i64 num, .int .u8 wire, .slice av B.length cv] 35)
  obtain ⟨c0, c1, c2, c3, c4⟩ := cells5 (Blk.new w 35 #[.int .u8 kd, .int .u64 n, .int .i64 num, .int .u8 wire, .slice av B.length cv])
  have hb0 := a6.grew g0
  simp only [ask5V]
  unfold askW
  simp only
  by_cases h0 : kd = 0
  · subst h0
    rw [if_pos rfl]
    go_enter Try.func12, Try.ntmps12
    go_wp2_with fail
    refine (rput_any n a2 _).mono ?_
    rintro e1 w1 ⟨v1, rfl, o1, g1⟩
    go_wp2
    go_ret2
    exact ⟨_, rfl, Sl.of_own o1, Grew.trans g0 g1⟩
  rw [if_neg h0]
  by_cases h1 : kd = 1
  · subst h1
    rw [if_pos rfl]
    have hlt := tmake_lt num wire a5
    have K := fun w => rmake_any num wire a3 a4 a5 w
    obtain ⟨⟨t, e⟩, hR⟩ : ∃ R, tmake num wire = R := ⟨_, rfl⟩
    simp only [hR] at K hlt ⊢
    have KG := Lib.hid K
    clear hR K h0
    go_enter Try.func12, Try.ntmps12
    go_wp2_with fail
    refine (KG.out _).mono ?_
    rintro e1 w1 ⟨rfl, rfl⟩
    go_wp2_with fail
    refine (rput_any t (by omega) _).mono ?_
    rintro e1 w1 ⟨v1, rfl, o1, g1⟩
    go_wp2
    go_ret2
    exact ⟨_, rfl, Sl.of_own o1, Grew.trans g0 g1⟩
  rw [if_neg h1]
  by_cases h2 : kd = 2
  · subst h2
    rw [if_pos rfl]
    have K := fun w => rfix_any (n % 4294967296) 4 (by omega) (by omega) w
    simp only [Int.natCast_emod] at K
    have K2 : ∀ w, Calls Try.prog 40 #[.int .u64 ((n : Int) % 4294967296), .int .i64 4] w fun e w' => ∃ v, e = .returned v ∧ OwnB w' w.heap.size v (fixB 4 (n % 4294967296)) ∧ Grew w w' := K
    have KG := Lib.hid K2
    clear K K2 h0 h1
    go_enter Try.func12, Try.ntmps12
    go_wp2_with fail
    refine (KG.out _).mono ?_
    rintro e1 w1 ⟨v1, rfl, o1, g1⟩
    go_wp2
    go_ret2
    exact ⟨_, rfl, Sl.of_own o1, Grew.trans g0 g1⟩
  rw [if_neg h2]
  by_cases h3 : kd = 3
  · subst h3
    rw [if_pos rfl]
    clear h0 h1 h2
    go_enter Try.func12, Try.ntmps12
    go_wp2_with fail
    refine (rfix_any n 8 (by omega) a2 _).mono ?_
    rintro e1 w1 ⟨v1, rfl, o1, g1⟩
    go_wp2
    go_ret2
    exact ⟨_, rfl, Sl.of_own o1, Grew.trans g0 g1⟩
  rw [if_neg h3]
  by_cases h4 : kd = 4
  · subst h4
    rw [if_pos rfl]
    clear h0 h1 h2 h3
    go_enter Try.func12, Try.ntmps12
    go_wp2_with fail
    refine (rbytes5_any B _ _ hb0 (by omega)).mono ?_
    rintro e1 w1 ⟨v1, rfl, o1, g1⟩
    go_wp2
    go_ret2
    exact ⟨_, rfl, Sl.of_own o1, Grew.trans g0 g1⟩
  rw [if_neg h4]
  have k0 : ((kd : Int) == 0) = false := by simp; omega
  have k1 : ((kd : Int) == 1) = false := by simp; omega
  have k2 : ((kd : Int) == 2) = false := by simp; omega
  have k3 : ((kd : Int) == 3) = false := by simp; omega
  have k4 : ((kd : Int) == 4) = false := by simp; omega
  clear h0 h1 h2 h3 h4
  go_enter Try.func12, Try.ntmps12
  go_wp2
  go_ret2
  exact ⟨_, rfl, hb0, g0⟩

set_option maxRecDepth 100000 in
set_option maxHeartbeats 4000000 in
theorem do_any (base : Nat) (F : Nat → Prop) (b : List UInt8) (p m : Nat) (a : Ask5) (w : World) (ho : OutO base F w p b m) (ha : a.ok w) (hl : a.B.length ≤ 1000) (hdis : ∀ g, Value.blk a.v = some g → a.B ≠ [] → ¬ F g) :
    Calls Try.prog 14 #[.pointer (some ⟨p, 0, none⟩), .agg (ask5V a).toArray] w fun e w' => e = .returned (.int .i64 (askD a m b).2) ∧ OutP 73 base F p (askD a m b).1 m w w' := by
  obtain ⟨kd, n, num, wire, vb, B⟩ := a
  obtain ⟨a1, a2, a3, a4, a5, a6⟩ := ha
  simp only at a1 a2 a3 a4 a5 a6 hl hdis
  obtain ⟨av, cv, rfl⟩ := bs_len a6
  have g0 := grew_alloc w (.cells #[.int .u8 kd, .int .u64 n, .int .i64 num, .int .u8 wire, .slice av B.length cv] 35)
  obtain ⟨c0, c1, c2, c3, c4⟩ := cells5 (Blk.new w 35 #[.int .u8 kd, .int .u64 n, .int .i64 num, .int .u8 wire, .slice av B.length cv])
  have hb0 := a6.grew g0
  have ho0 := ho.grew g0
  have hdis' := Lib.hid hdis
  simp only [ask5V]
  unfold askD askW
  simp only
  clear ho a6 hdis
  by_cases h0 : kd = 0
  · subst h0
    rw [if_pos rfl]
    rw [if_neg (by simp)]
    go_enter Try.func14, Try.ntmps14
    go_wp2_with fail
    refine (ovarint_any base F b p m n a2 _ ho0).mono ?_
    rintro e1 w1 ⟨rfl, h⟩
    have H := Lib.hid h
    clear h
    go_wp2
    go_ret
    exact ⟨rfl, H.out.pre g0⟩
  rw [if_neg h0]
  by_cases h1 : kd = 1
  · subst h1
    rw [if_pos rfl]
    have e1 : (if (tmake num wire).2 ≠ 0 then (b, (tmake num wire).2) else putR b (vput (tmake num wire).1) m) = tagP b num wire m := rfl
    rw [e1]
    clear h0 e1
    go_enter Try.func14, Try.ntmps14
    go_wp2_with fail
    refine (otag_any base F b p m num wire a3 a4 a5 _ ho0).mono ?_
    rintro e1 w1 ⟨rfl, h⟩
    have H := Lib.hid h
    clear h
    go_wp2
    go_ret
    exact ⟨rfl, H.out.pre g0⟩
  rw [if_neg h1]
  by_cases h2 : kd = 2
  · subst h2
    rw [if_pos rfl]
    rw [if_neg (by simp)]
    have K := fun w ho => ofour_any base F b p m (n % 4294967296) (by omega) w ho
    obtain ⟨r, hr⟩ : ∃ r, IntKind.u32.wrap (n : Int) = r := ⟨_, rfl⟩
    have hw : IntKind.u32.wrap (n : Int) = ((n % 4294967296 : Nat) : Int) := by rw [IntKind.wrap_u32']; omega
    rw [← hw] at K
    clear hr hw
    have KG := Lib.hid K
    clear K h0 h1
    go_enter Try.func14, Try.ntmps14
    go_wp2_with fail
    refine (KG.out _ ho0).mono ?_
    rintro e1 w1 ⟨rfl, h⟩
    have H := Lib.hid h
    clear h
    go_wp2
    go_ret
    exact ⟨rfl, H.out.pre g0⟩
  rw [if_neg h2]
  by_cases h3 : kd = 3
  · subst h3
    rw [if_pos rfl]
    rw [if_neg (by simp)]
    clear h0 h1 h2
    go_enter Try.func14, Try.ntmps14
    go_wp2_with fail
    refine (oeight_any base F b p m n a2 _ ho0).mono ?_
    rintro e1 w1 ⟨rfl, h⟩
    have H := Lib.hid h
    clear h
    go_wp2
    go_ret
    exact ⟨rfl, H.out.pre g0⟩
  rw [if_neg h3]
  by_cases h4 : kd = 4
  · subst h4
    rw [if_pos rfl]
    rw [if_neg (by simp)]
    clear h0 h1 h2 h3
    go_enter Try.func14, Try.ntmps14
    go_wp2_with fail
    refine (obytes_any base F b B p m _ _ ho0 hb0 hdis'.out (by omega)).mono ?_
    rintro e1 w1 ⟨rfl, h⟩
    have H := Lib.hid h
    clear h
    go_wp2
    go_ret
    exact ⟨rfl, H.out.pre g0⟩
  rw [if_neg h4]
  rw [if_neg (by simp)]
  have k0 : ((kd : Int) == 0) = false := by simp; omega
  have k1 : ((kd : Int) == 1) = false := by simp; omega
  have k2 : ((kd : Int) == 2) = false := by simp; omega
  have k3 : ((kd : Int) == 3) = false := by simp; omega
  have k4 : ((kd : Int) == 4) = false := by simp; omega
  clear h0 h1 h2 h3 h4
  go_enter Try.func14, Try.ntmps14
  go_wp2_with fail
  refine (raw_any base F b B p m _ _ ho0 hb0 (by omega)).mono ?_
  rintro e1 w1 ⟨rfl, h⟩
  have H := Lib.hid h
  clear h
  go_wp2
  go_ret
  exact ⟨rfl, H.out.pre g0⟩
end Go.Proofs.Ytakogncnkbgkfaa
