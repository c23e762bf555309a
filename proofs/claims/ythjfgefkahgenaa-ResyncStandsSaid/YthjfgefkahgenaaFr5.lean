/- The law ResyncStands returns true: its walk. -/
import Derived.Test.YthjfgefkahgenaaFrV
namespace Go.Proofs.Ythjfgefkahgenaa
open Go Go.RowKit Go.Shelf

/-- where the frames ahead of k end -/
def endOf (fs : List Fnd) (k : Nat) : Nat := ((fs.take k).getLast?.map fend).getD 0
theorem endOf_succ (fs : List Fnd) (k : Nat) (h : k < fs.length) : endOf fs (k + 1) = fend fs[k] := by
  unfold endOf; rw [List.take_succ_eq_append_getElem h, List.getLast?_concat]; rfl
theorem endOf_le (l : List UInt8) (k : Nat) (h : k < (walkL false l 0).1.length) : endOf (walkL false l 0).1 k ≤ (walkL false l 0).1[k].1 := by
  cases k with
  | zero => simp [endOf]
  | succ k =>
    rw [endOf_succ _ _ (by omega)]
    exact (List.pairwise_iff_getElem.1 (walk_at false l 0).2) k (k + 1) (by omega) h (by omega)
theorem endOf_from (l : List UInt8) : endOf (walkL false l 0).1 (walkL false l 0).1.length ≤ (walkL false l 0).2.2 := by
  cases hl : (walkL false l 0).1.length with
  | zero => simp [endOf]
  | succ k =>
    rw [endOf_succ _ _ (by omega)]
    exact ((walk_at false l 0).1 _ (List.getElem_mem _)).2.1

set_option maxRecDepth 100000 in
set_option maxHeartbeats 8000000 in
theorem stands_walk (l : List UInt8) (v : Value) (w : World) (hb : Bs w v l) :
    Calls Try.prog 8 #[v] w fun e w' => e = .returned (.bool true) ∧ Grew w w' := by
  obtain ⟨a, c, rfl, h1, h2, -, hcc⟩ := hb.open
  unfold maxLen at h2
  by_cases hl : 12000 < l.length
  · clear hb hcc
    go_enter Try.func8, Try.ntmps8
    go_wp2_with fail
    refine (live14_any _).mono ?_
    rintro e w1 ⟨rfl, g1⟩
    go_wp2
    go_ret
    exact ⟨rfl, g1⟩
  have hl' : l.length ≤ 12000 := by omega
  have HB := Lib.hid hb
  have HCC := Lib.hid hcc
  clear hl hb hcc
  go_enter Try.func8, Try.ntmps8
  go_wp2_with fail
  refine (live14_any _).mono ?_
  rintro e w1 ⟨rfl, g1⟩
  have B1 := Lib.hid (HB.out.grew g1)
  have k2 := all_any l _ _ B1.out (by omega)
  have EW := Lib.hid (walk_at false l 0)
  have FW := Lib.hid (walk_from false l 0)
  have OW := Lib.hid (endOf_le l)
  have LW := Lib.hid (endOf_from l)
  obtain ⟨R, hR⟩ : ∃ R, R = walkL false l 0 := ⟨_, rfl⟩
  rw [← hR] at k2 EW FW LW
  have OW2 : RowKit.Hid (∀ k (h : k < R.1.length), endOf R.1 k ≤ R.1[k].1) := by show _; rw [hR]; exact OW.out
  have K2 := Lib.hid k2
  clear k2 hR OW
  go_wp2_with fail
  refine K2.out.mono ?_
  rintro e w2 ⟨v2, rfl, r2, g2⟩
  obtain ⟨a2, n2, c2, rfl, rfl, t2, s2⟩ := r2.shape
  have R2 := Lib.hid r2.frs
  have G2 := g1.trans g2
  have B2 := Lib.hid (B1.out.grew g2)
  clear r2
  go_wp2
  go_loopw [5, 6] (fun en i wr => (∃ k : Nat, k ≤ R.1.length ∧ i = .int .i64 k ∧ en = .int .i64 (endOf R.1 k)) ∧ Grew w2 wr) (fun _ i _ => R.1.length - (intOf i).toNat)
  case atStart => exact ⟨⟨0, Nat.zero_le _, rfl, rfl⟩, Below.refl _ _⟩
  case round =>
    obtain ⟨⟨k, hk, rfl, rfl⟩, gr⟩ := hrel
    by_cases hlt : k < R.1.length
    · obtain ⟨b2, o2, rfl, hc2⟩ := R2.out.cells (by omega)
      obtain ⟨y0, y1, u2, y2, hbs⟩ := hc2 k hlt
      replace y0 := (below_ext gr) _ _ y0
      replace y1 := (below_ext gr) _ _ y1
      replace y2 := (below_ext gr) _ _ y2
      replace hbs := hbs.grew gr
      obtain ⟨ua, un, uc, rfl, hun⟩ := bs_shape hbs
      obtain ⟨-, q2, q3, q4⟩ := EW.out.1 R.1[k] (List.getElem_mem hlt)
      rw [Nat.sub_zero] at q3 q4
      have hfin := FW.out.2.1
      have hend := OW2.out k hlt
      have hsn := endOf_succ R.1 k hlt
      unfold fend at q2 hsn
      generalize R.1[k].1 = p at y0 q2 q3 q4 hend hsn
      generalize R.1[k].2 = f at y1 hbs q2 q4 hsn hun
      have hput := fput_fof q3
      have hz := ferr_zero q3
      have hfl := fof_len hz.1
      rw [q4] at hput hfl
      have hle : f.2.length ≤ 8192 := by rw [hfl]; exact hz.2.1
      obtain ⟨U, hU⟩ : ∃ U, U = f.2.length := ⟨_, rfl⟩
      have hpl : (fput f).length = U + 9 := by rw [fput_length, hU]
      rw [← hU] at q2 hsn
      rw [← hfl, ← hU] at hput
      have hpin : p + (U + 9) ≤ l.length := by omega
      have KP := Lib.hid (fput_any f (.slice ua un uc) wr hbs hle)
      have HP := Lib.hid hput
      have HPL := Lib.hid hpl
      have HSN := Lib.hid hsn
      obtain ⟨E, hE⟩ : ∃ E, E = endOf R.1 k := ⟨_, rfl⟩
      rw [← hE] at hend ⊢
      have hUl : U ≤ 12000 := by omega
      clear hput hpl hsn q3 q4 hz hfl hle hbs hc2 hE hun
      go_wp2_with fail
      refine KP.out.mono ?_
      rintro e w3 ⟨v3, rfl, r3, g3⟩
      have s3 := Sl.of_own r3
      obtain ⟨a3, n3, c3, rfl, hn3⟩ := bs_shape s3
      have hn3' : n3 = U + 9 := by rw [hn3.out, HPL.out]
      have S3 := Lib.hid s3
      have g23 := gr.trans g3
      obtain ⟨b, o, rfl, -⟩ := HCC.out (by omega)
      have hcut := bs_cut (B2.out.grew g23) p (p + (U + 9)) (by omega) hpin
      rw [show p + (U + 9) - p = U + 9 by omega, ← HP.out] at hcut
      replace y0 := (below_ext g3) _ _ y0
      rw [← hn3'] at hcut
      have hpn : p + n3 ≤ l.length := by omega
      have hnn : n3 ≤ 12009 := by omega
      have HN3 := Lib.hid hn3'
      clear s3 r3 y1 y2 hU KP hn3' hn3
      have z0 : (0 : Int) ≤ (k : Int) := by omega
      have z1 : (k : Int) < (R.1.length : Int) := by omega
      have z2 : decide ((p : Int) < (E : Int)) = false := by simp; omega
      have z2b : decide (p < E) = false := by simp; omega
      have z3 : decide ((p : Int) + (n3 : Int) > (l.length : Int)) = false := by simp; omega
      have z3b : decide ((l.length : Int) < (p : Int) + (n3 : Int)) = false := by simp; omega
      have z5 : (0 : Int) ≤ (p : Int) := by omega
      have z6 : (p : Int) + (n3 : Int) ≤ (c : Int) := by omega
      have z7 : (p : Int) ≤ (p : Int) + (n3 : Int) := by omega
      have z8 : ((p : Int) + (n3 : Int)).toNat = p + n3 := by omega
      have z9 : p + n3 - p = n3 := by omega
      have z10 : ¬ c = p := by omega
      have z11 : IntKind.i64.wrap ((p : Int) + (n3 : Int)) = (p : Int) + (n3 : Int) := by rw [IntKind.wrap_i64]; omega
      have z12 : (U : Int) ≤ 12000 := by omega
      have z13 : (p : Int) ≤ 12000 := by omega
      have kc := fun m => same_any (fput f) (fput f) _ _ (w3.drewN m) (hcut.grew (Drew.grew ⟨m, rfl⟩)) (S3.out.grew (Drew.grew ⟨m, rfl⟩))
      simp only [show (fput f == fput f) = true by simp] at kc
      have KC := Lib.hid kc
      clear hcut kc
      go_wp2
      go_quiet ((go_at_call 33; exact quiet_drew (KC.out _)))
      have g8 : Grew w3 (w3.drewN nq) := Drew.grew ⟨_, rfl⟩
      have y0' := (below_ext g8) _ _ y0
      go_wp2
      go_roundw
      case rel => exact ⟨⟨k + 1, by omega, by go_num, by rw [HSN.out, HN3.out]; push_cast; first | rfl | omega⟩, g23.trans g8⟩
      case measure => simp [intOf]; omega
    · obtain rfl : k = R.1.length := by omega
      have hle := LW.out
      obtain ⟨f1, f2, -, f4⟩ := FW.out
      generalize endOf R.1 R.1.length = E at hle ⊢
      generalize R.2.2 = F at hle f1 f2 f4 ⊢
      rw [Nat.zero_add] at f2 f4
      rw [Nat.sub_zero] at f4
      have z1 : decide ((F : Int) ≥ (E : Int)) = true := by simp; omega
      have z1b : decide ((E : Int) ≤ (F : Int)) = true := by simp; omega
      have z1c : decide (E ≤ F) = true := by simp; omega
      have z2 : decide ((F : Int) ≤ (l.length : Int)) = true := by simp; omega
      have z2b : decide (F ≤ l.length) = true := by simp; omega
      have HS := Lib.hid (fun W => fsize_any 8192 W (by omega) (by omega))
      have hsm : l.length < F + 8201 := by
        rcases f4 with f4 | f4
        · omega
        · have := ferr_short f4; rw [List.length_drop] at this; omega
      have z3 : decide ((l.length : Int) - (F : Int) < 8201) = true := by simp; omega
      have gB := Lib.hid (B2.out.grew gr)
      have F4 := Lib.hid f4
      clear f4 f1
      go_wp2_with fail
      refine (HS.out _).mono ?_
      rw [show fsize 8192 = 8201 from rfl]
      rintro e w5 ⟨rfl, rfl⟩
      by_cases he : F = l.length
      · have z4 : ((F : Int) == (l.length : Int)) = true := by simp; omega
        have z4b : (F == l.length) = true := by simp; omega
        clear he
        go_wp2
        go_ret
        exact ⟨rfl, G2.trans gr⟩
      · have z4 : ((F : Int) == (l.length : Int)) = false := by simp; omega
        have z4b : (F == l.length) = false := by simp; omega
        have h4 := F4.out.resolve_left he
        obtain ⟨b, o, rfl, -⟩ := HCC.out (by omega)
        have z5 : ¬ c = F := by omega
        have kc := could_any (l.drop F) _ _ (bs_drop gB.out F f2) (by simp; omega)
        rw [h4] at kc
        have KC := Lib.hid kc
        clear he h4 kc
        go_wp2_with fail
        refine KC.out.mono ?_
        rintro e w6 ⟨rfl, g6⟩
        go_wp2
        go_ret
        exact ⟨rfl, (G2.trans gr).trans g6⟩
end Go.Proofs.Ythjfgefkahgenaa
