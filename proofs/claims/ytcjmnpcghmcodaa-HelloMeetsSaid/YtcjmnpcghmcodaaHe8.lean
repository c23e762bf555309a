/- The law HelloMeets returns true: its walk. -/
import Derived.Test.YtcjmnpcghmcodaaHe7
namespace Go.Proofs.Ytcjmnpcghmcodaa
open Go Go.RowKit Go.Shelf

theorem flt_cmpn (e1 a1 e2 a2 : Int) (W : World) : (binOp .neq 32 (.agg #[.int .i64 e1, .int .i64 a1]) (.agg #[.int .i64 e2, .int .i64 a2])).run Try.prog W = .ok (.bool !(e1 == e2 && a1 == a2)) W := by
  go_simp
  by_cases h1 : e1 = e2
  · subst h1; by_cases h2 : a1 = a2
    · subst h2; simp
    · simp [h2]
  · simp [h1]
theorem flt_ne (x : Nat × Nat) (h : x ≠ (0, 0)) (W : World) : (binOp .neq 32 (.agg #[.int .i64 x.1, .int .i64 x.2]) (.agg #[.int .i64 0, .int .i64 0])).run Try.prog W = .ok (.bool true) W := by
  rw [flt_cmpn]
  obtain ⟨x1, x2⟩ := x
  have : ((x1 : Int) == 0 && (x2 : Int) == 0) = false := by
    rw [Bool.eq_false_iff]; intro e; simp at e; exact h (by rw [e.1, e.2])
  rw [this]; rfl
set_option maxRecDepth 100000 in
set_option maxHeartbeats 8000000 in
theorem meets_walk (lo hi ss : Nat) (nm own : ByteArray) (m : Msg) (v : Value) (h0 : lo < 4294967296) (h1 : hi < 4294967296) (w : World) (hm : MsgR w v m) :
    Calls Try.prog 9 #[.int .u32 lo, .int .u32 hi, .int .u64 ss, .string nm, .string own, v] w fun e w' => e = .returned (.bool true) ∧ Grew w w' := by
  obtain ⟨lv, rfl, hl, ho⟩ := hm
  obtain ⟨a, c, rfl⟩ := tx_len hl
  obtain ⟨W0, hW0⟩ : ∃ W0, W0 = w.alloc (.cells (msgA m (.slice a m.l.length c)) 27) := ⟨_, rfl⟩
  have g0 : Grew w W0 := by rw [hW0]; exact grew_alloc _ _
  have k1 : Blk W0 w.heap.size 27 (msgA m (.slice a m.l.length c)) := by rw [hW0]; exact Blk.new _ _ _
  have K1 := Lib.hid k1
  have G0 := Lib.hid g0
  have KS := Lib.hid (fun W g => small9_any m (.slice a m.l.length c) W (hl.grew (g : Grew w W)))
  have KQ := Lib.hid (fun W => ask_any lo hi nm h0 h1 W)
  simp only [msgA] at hW0 KS K1 ⊢
  have zl : (lo : Int) ≤ 4294967295 := by omega
  have zh : (hi : Int) ≤ 4294967295 := by omega
  clear k1 g0 hl ho h0 h1
  go_enter Try.func9, Try.ntmps9
  go_wp2_with fail
  rw [← hW0]
  refine (live35_any _).mono ?_
  rintro e w1 ⟨rfl, g1⟩
  have K2 := Lib.hid (K1.out.grew g1)
  have G1 := Lib.hid (G0.out.trans g1)
  clear hW0 K1 G0 g1
  by_cases hn : 64 < nm.size
  · have zn : (64 : Int) < (nm.size : Int) := by omega
    go_wp2
    go_ret
    exact ⟨rfl, G1.out⟩
  have zn : (nm.size : Int) ≤ 64 := by omega
  clear hn
  by_cases h5 : 500 < own.size
  · have z5 : (500 : Int) < (own.size : Int) := by omega
    go_wp2
    go_ret
    exact ⟨rfl, G1.out⟩
  have z5 : (own.size : Int) ≤ 500 := by omega
  have HNM := Lib.hid (show nm.size ≤ 9223372036854775807 from by omega)
  clear h5
  obtain ⟨c0, c1, c2, c3, c4, c5, c6, c7, c8, c9⟩ := msg_cells K2.out
  go_wp2_with fail
  refine (KS.out _ G1.out).mono ?_
  rintro e w2 ⟨rfl, g2⟩
  have K3 := Lib.hid (K2.out.grew g2)
  have G2 := Lib.hid (G1.out.trans g2)
  clear K2 G1 g2 c0 c1 c2 c3 c4 c5 c6 c7 c8 c9
  cases smallB m with
  | false =>
    go_wp2
    go_ret
    exact ⟨rfl, G2.out⟩
  | true =>
  go_wp2_with fail
  refine (KQ.out _).mono ?_
  rintro e w3 ⟨rfl, g3⟩
  rw [askM_A]
  have K4 := Lib.hid (K3.out.grew g3)
  have G3 := Lib.hid (G2.out.trans g3)
  clear K3 G2 g3
  obtain ⟨qA, hqA⟩ : ∃ qA, qA = msgA (askM lo hi nm) (.slice none 0 0) := ⟨_, rfl⟩
  go_upto_region 6 with (fail)
  obtain ⟨W4, hW4⟩ : ∃ W4, W4 = w3.alloc (.cells qA 27) := ⟨_, rfl⟩
  have KB : RowKit.Hid (Blk W4 w3.heap.size 27 qA) := Lib.hid (by rw [hW4]; exact Blk.new _ _ _)
  have K5 : RowKit.Hid (Blk W4 w.heap.size 27 _) := Lib.hid (by rw [hW4]; exact K4.out.alloc _)
  have G4 : RowKit.Hid (Grew w W4) := Lib.hid (by rw [hW4]; exact G3.out.trans (grew_alloc _ _))
  rw [hqA, askM_A] at hW4 KB
  rw [← hW4]
  clear hW4 K4 G3
  have KA := Lib.hid (fun W => answer_any (askM lo hi nm) none 0 ss own W (askM_ok _ _ _ HNM.out) (Sl.nil W 1) (by simp [askM]))
  have KC1 := Lib.hid (fun W => vcheck_any (askM lo hi nm) (.slice none 0 0) 1 W (askM_ok _ _ _ HNM.out) (Sl.nil W 1) (by simp [askM]))
  rw [show Value.slice none (askM lo hi nm).l.length 0 = .slice none 0 0 from rfl] at KA
  rw [askM_A] at KA KC1
  clear hqA qA
  refine wp_region_lit ?_
  refine wpList_load_row rfl 27 _ rfl w3.heap.size rfl 27 _ (0, 0) _ KB.out Try.underlying27 rfl (by kernel_rfl) ?_
  go_wp2_with fail
  by_cases hF : ansF (askM lo hi nm) = 0
  · obtain ⟨s, hs1, hs2, hs3, hs4⟩ := ans_ack ss own hF
    rw [show chV ((askM lo hi nm).n 0) ((askM lo hi nm).n 1) = chV lo hi from rfl] at hs1 hs2 hs4
    have hg := (ask_good hF).2
    have hne := (ask_good hF).1
    rw [hF, hs2, hs1, ack_A] at KA
    have hV1 : 1 ≤ (chV lo hi).1 := by rw [hg]; simp; omega
    have hV3 := chV_le lo hi
    have KP := Lib.hid (fun W => accept_any (askM lo hi nm) (ackM (chV lo hi).1 ss s) none none 0 0 W)
    rw [acc_ack ss s hF] at KP
    have hok : okM (ackM (chV lo hi).1 ss s) := ⟨fun i _ => by
      show (if i = 0 then s else ⟨#[]⟩ : ByteArray).size ≤ _
      split
      · omega
      · exact Nat.zero_le _, fun _ h => by cases h⟩
    have hok2 : okM (ackM (chV lo hi).1 ss ⟨#[]⟩) := ⟨fun i _ => by
      show (if i = 0 then ⟨#[]⟩ else ⟨#[]⟩ : ByteArray).size ≤ _
      split <;> exact Nat.zero_le _, fun _ h => by cases h⟩
    have KV := Lib.hid (fun W => vcheck_any (ackM (chV lo hi).1 ss s) (.slice none 0 0) ((chV lo hi).1 : Nat) W hok (Sl.nil W 1) (by simp [ackM]))
    rw [show (ackM (chV lo hi).1 ss s).k = 2 from rfl, ack_chk _ ss s hV1 hV3 hs4] at KV
    have KV1 := Lib.hid (fun W => vcheck_any (ackM (chV lo hi).1 ss ⟨#[]⟩) (.slice none 0 0) 1 W hok2 (Sl.nil W 1) (by simp [ackM]))
    rw [show (ackM (chV lo hi).1 ss ⟨#[]⟩).k = 2 from rfl, ack_chk1 _ ss hV3] at KV1
    have KM := Lib.hid (fun W => accept_any (askM lo hi nm) m none a 0 c W)
    have D1 := Lib.hid (fun h => acc_kind (lo := lo) (hi := hi) (nm := nm) (b := m) h)
    have D2 := Lib.hid (fun h h2 => acc_not (lo := lo) (hi := hi) (nm := nm) (b := m) h h2)
    have D3 := Lib.hid (fun h h2 => acc_yes (lo := lo) (hi := hi) (nm := nm) (b := m) h h2)
    rw [show Value.slice none (askM lo hi nm).l.length 0 = .slice none 0 0 from rfl] at KP KM
    rw [show Value.slice none (ackM (chV lo hi).1 ss s).l.length 0 = .slice none 0 0 from rfl] at KP
    generalize accV (askM lo hi nm) m = R at KM D1 D2 D3
    generalize (chV lo hi).1 = V at KA KP KV KV1 hV1 hV3
    rw [ack_A] at KP KV KV1
    rw [askM_A] at KP KM
    simp only [msgA, fltV] at KM KV KV1
    have hfn : ∀ W : World, (binOp .neq 32 (.agg #[.int .i64 0, .int .i64 0]) (.agg #[.int .i64 0, .int .i64 0])).run Try.prog W = .ok (.bool false) W := fun W => by kernel_rfl
    have hvv : ((V : Int) != (V : Int)) = false := by simp
    refine (KA.out _).mono ?_
    rintro e w5 ⟨rfl, g5⟩
    have KB5 := Lib.hid (KB.out.grew g5)
    have K6 := Lib.hid (K5.out.grew g5)
    have G5 := Lib.hid (G4.out.trans g5)
    have HL1 := Lib.hid (KB5.out.lt)
    have HL2 := Lib.hid (K6.out.lt)
    clear hs1 hs2 hs3 hs4 hg hne hok hok2 KA KC1 KB K5 G4 g5 hF hV1 hV3
    go_upto_region 10 with (fail)
    obtain ⟨W6, hW6⟩ : ∃ W6, W6 = w5.alloc (.cells #[.int .u8 2, .int .u64 V, .int .u64 ss, .int .u64 0, .int .u64 0, .int .u64 0, .int .u64 0, .string s, .string ⟨#[]⟩, .slice none 0 0] 27) := ⟨_, rfl⟩
    have KC : RowKit.Hid (Blk W6 w5.heap.size 27 _) := Lib.hid (by rw [hW6]; exact Blk.new _ _ _)
    have KB6 : RowKit.Hid (Blk W6 w3.heap.size 27 _) := Lib.hid (by rw [hW6]; exact KB5.out.alloc _)
    have KM6 : RowKit.Hid (Blk W6 w.heap.size 27 _) := Lib.hid (by rw [hW6]; exact K6.out.alloc _)
    have G6 : RowKit.Hid (Grew w W6) := Lib.hid (by rw [hW6]; exact G5.out.trans (grew_alloc _ _))
    rw [← hW6]
    clear hW6 KB5 K6
    refine wp_region_lit ?_
    refine wpList_load_row rfl 27 _ rfl w3.heap.size rfl 27 _ (0, 0) _ KB6.out Try.underlying27 rfl (by kernel_rfl) ?_
    refine wpList_load_row rfl 27 _ rfl w5.heap.size rfl 27 _ (0, 0) _ KC.out Try.underlying27 rfl (by kernel_rfl) ?_
    go_wp2_with fail
    refine (KP.out _).mono ?_
    rintro e w7 ⟨rfl, g7⟩
    have KC7 := Lib.hid (KC.out.grew g7)
    have KB7 := Lib.hid (KB6.out.grew g7)
    have KM7 := Lib.hid (KM6.out.grew g7)
    have G7 := Lib.hid (G6.out.trans g7)
    clear KC KB6 KM6 G6 g7
    have c0 := KC7.out.cell 0
    have c1 := KC7.out.cell 1
    have c2 := KC7.out.cell 2
    have c3 := KC7.out.cell 3
    have c4 := KC7.out.cell 4
    have c5 := KC7.out.cell 5
    have c6 := KC7.out.cell 6
    have c7 := KC7.out.cell 7
    have c8 := KC7.out.cell 8
    have c9 := KC7.out.cell 9
    simp only [List.getElem?_toArray, List.getElem?_cons_zero, List.getElem?_cons_succ] at c0 c1 c2 c3 c4 c5 c6 c7 c8 c9
    go_wp2_with fail
    refine (KV.out _).mono ?_
    rintro e w8 ⟨rfl, g8⟩
    have kc8 := KC7.out.grew g8
    have f8 := kc8.frozen 7
    have d8 := kc8.cell 7
    simp only [List.getElem?_toArray, List.getElem?_cons_zero, List.getElem?_cons_succ] at d8
    have S1 := Lib.hid (kc8.set 7 (.string ⟨#[]⟩))
    have S2 := Lib.hid ((KB7.out.grew g8).other ⟨w5.heap.size, 7, none⟩ (.string ⟨#[]⟩) (Nat.ne_of_lt HL1.out))
    have S3 := Lib.hid ((KM7.out.grew g8).other ⟨w5.heap.size, 7, none⟩ (.string ⟨#[]⟩) (Nat.ne_of_lt HL2.out))
    have S4 := Lib.hid (grew_set (b := w5.heap.size) (j := 7) (G7.out.trans g8) (by have := G5.out.size; omega) (.string ⟨#[]⟩))
    clear c0 c1 c2 c3 c4 c5 c6 c7 c8 c9 KC7 KB7 KM7 G7 g8 kc8
    go_upto_region 14 with (fail)
    refine wp_region_lit ?_
    refine wpList_load_row rfl 27 _ rfl w5.heap.size rfl 27 _ (0, 0) _ S1.out Try.underlying27 rfl (by kernel_rfl) ?_
    go_wp2_with fail
    refine (KV1.out _).mono ?_
    rintro e w9 ⟨rfl, g9⟩
    have KB9 := Lib.hid (S2.out.grew g9)
    have KM9 := Lib.hid (S3.out.grew g9)
    have G9 := Lib.hid (Grew.trans S4.out g9)
    clear S1 S2 S3 S4 g9 f8 d8
    go_upto_region 16 with (fail)
    refine wp_region_lit ?_
    refine wpList_load_row rfl 27 _ rfl w3.heap.size rfl 27 _ (0, 0) _ KB9.out Try.underlying27 rfl (by kernel_rfl) ?_
    refine wpList_load_row rfl 27 _ rfl w.heap.size rfl 27 _ (0, 0) _ KM9.out Try.underlying27 rfl (by kernel_rfl) ?_
    go_wp2_with fail
    refine (KM.out _).mono ?_
    rintro e w10 ⟨rfl, g10⟩
    have km := KM9.out.grew g10
    have x0 := km.cell 0
    have x1 := km.cell 1
    simp only [List.getElem?_toArray, List.getElem?_cons_zero, List.getElem?_cons_succ] at x0 x1
    have G10 := Lib.hid (G9.out.trans g10)
    clear km KB9 KM9 G9 g10
    by_cases hk : m.k = 2
    · have zk : ((m.k : Int) != 2) = false := by simp; omega
      by_cases hb : m.n 0 < lo ∨ hi < m.n 0 ∨ m.n 0 < 1 ∨ 3 < m.n 0
      · have hR := D2.out hk hb
        subst hR
        clear hk
        by_cases b1 : m.n 0 < lo
        · have b1' : decide (m.n 0 < lo) = true := by simpa using b1
          clear b1 hb
          go_wp2
          go_ret
          exact ⟨rfl, G10.out⟩
        have b1' : decide (m.n 0 < lo) = false := by simpa using b1
        by_cases b2 : hi < m.n 0
        · have b2' : decide (hi < m.n 0) = true := by simpa using b2
          clear b1 b2 hb
          go_wp2
          go_ret
          exact ⟨rfl, G10.out⟩
        have b2' : decide (hi < m.n 0) = false := by simpa using b2
        by_cases b3 : m.n 0 < 1
        · have b3' : (m.n 0 : Int) < 1 := by omega
          clear b1 b2 b3 hb
          go_wp2
          go_ret
          exact ⟨rfl, G10.out⟩
        have b3' : ¬ (m.n 0 : Int) < 1 := by omega
        have b4' : (3 : Int) < (m.n 0 : Int) := by omega
        clear b1 b2 b3 hb
        go_wp2
        go_ret
        exact ⟨rfl, G10.out⟩
      · have hR := D3.out hk hb
        subst hR
        have b1' : decide (m.n 0 < lo) = false := by simp; omega
        have b2' : decide (hi < m.n 0) = false := by simp; omega
        have b3' : (1 : Int) ≤ (m.n 0 : Int) := by omega
        have b4' : (m.n 0 : Int) ≤ 3 := by omega
        clear hk hb
        go_wp2
        go_ret
        exact ⟨rfl, G10.out⟩
    · have zk : ((m.k : Int) != 2) = true := by simp; omega
      have hR := D1.out hk
      subst hR
      clear hk
      go_wp2
      go_ret
      exact ⟨rfl, G10.out⟩
  · refine (KA.out _).mono ?_
    rintro e w5 ⟨rfl, g5⟩
    have KB5 := Lib.hid (KB.out.grew g5)
    have G5 := Lib.hid (G4.out.trans g5)
    have e2 := (ans_err (ss := ss) (nm := own) hF)
    rw [e2.1, e2.2]
    have hbad := ask_bad hF
    generalize ansF (askM lo hi nm) = F at hF ⊢
    have hF' : ((F : Int) != 0) = true := by simp; omega
    clear hF e2 KA KB K5 G4 g5
    rw [show (askM lo hi nm).k = 1 from rfl] at KC1
    generalize chkM (askM lo hi nm) (ofKind 1 (rowsIn 1)) = X at KC1 hbad
    simp only [zMsg, fltV] at KC1 ⊢
    go_wp2_with fail
    refine (choose_any lo hi _).mono ?_
    rintro e w6 ⟨rfl, rfl⟩
    have KQ5 : RowKit.Hid (Blk (w5.alloc (.cells #[.int .u8 0, .int .u64 0, .int .u64 0, .int .u64 0, .int .u64 0, .int .u64 0, .int .u64 0, .string ⟨#[]⟩, .string ⟨#[]⟩, .slice none 0 0] 27)) w3.heap.size 27 _) := Lib.hid (KB5.out.alloc _)
    have GQ5 := Lib.hid (G5.out.trans (grew_alloc w5 (.cells #[.int .u8 0, .int .u64 0, .int .u64 0, .int .u64 0, .int .u64 0, .int .u64 0, .int .u64 0, .string ⟨#[]⟩, .string ⟨#[]⟩, .slice none 0 0] 27)))
    obtain ⟨W6, hW6⟩ : ∃ W6, W6 = w5.alloc (.cells #[.int .u8 0, .int .u64 0, .int .u64 0, .int .u64 0, .int .u64 0, .int .u64 0, .int .u64 0, .string ⟨#[]⟩, .string ⟨#[]⟩, .slice none 0 0] 27) := ⟨_, rfl⟩
    rw [← hW6] at KQ5 GQ5 ⊢
    clear hW6 KB5 G5
    cases hc : (chV lo hi).2 with
    | false =>
      go_wp2
      go_ret
      exact ⟨rfl, GQ5.out⟩
    | true =>
      have hx : X ≠ (0, 0) := by
        rcases hbad with h | h
        · rw [hc] at h; cases h
        · exact h
      have hxn := flt_ne X hx
      clear hbad hc hx
      have kq := KQ5.out
      have c0 := kq.cell 0
      have c1 := kq.cell 1
      have c2 := kq.cell 2
      have c3 := kq.cell 3
      have c4 := kq.cell 4
      have c5 := kq.cell 5
      have c6 := kq.cell 6
      have c7 := kq.cell 7
      have c8 := kq.cell 8
      have c9 := kq.cell 9
      simp only [List.getElem?_toArray, List.getElem?_cons_zero, List.getElem?_cons_succ] at c0 c1 c2 c3 c4 c5 c6 c7 c8 c9
      clear kq
      go_wp2_with fail
      refine (KC1.out _).mono ?_
      rintro e w7 ⟨rfl, g7⟩
      have G7 := Lib.hid (GQ5.out.trans g7)
      clear g7 c0 c1 c2 c3 c4 c5 c6 c7 c8 c9
      go_wp2
      go_ret
      exact ⟨rfl, G7.out⟩
end Go.Proofs.Ytcjmnpcghmcodaa
