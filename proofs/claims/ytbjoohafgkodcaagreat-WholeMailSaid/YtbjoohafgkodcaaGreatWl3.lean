/- lenient.parts: contract, and the iterator over the fields of bytes with what they are of. -/
import Derived.Test.YtbjoohafgkodcaaGreatWl1
import Derived.Test.YtbjoohafgkodcaaGreatSkF
namespace Go.Proofs.YtbjoohafgkodcaaGreat
open Go Go.RowKit Go.Shelf
attribute [local go_sem] Oper.semAt_some

def spN (o : Option Row) : Int := match o with | some r => (r.2.1 : Int) | none => 0
def spT (o : Option Row) : Int := match o with | some r => (r.2.2.1 : Int) | none => 0
def spS (o : Option Row) : Int := match o with | some r => (r.2.2.2.1 : Int) | none => 0
theorem foundV_sp (o : Option Row) : foundV o = #[.agg #[.int .i64 (spN o), .int .i64 (spT o), .int .i64 (spS o)], .bool o.isSome] := by cases o <;> rfl
/-- the row of a field's number -/
def finR (k : Nat) (ver : Int) (x : Fld) : Option Row := (rowsIn ver).find? (isField k (fNum x))
/-- is it of one of a message's -/
def okP (k : Nat) (ver : Int) (x : Fld) : Bool := (finR k ver x).isSome && (wireV (spT (finR k ver x))).1 == (fWire x : Int)
theorem okP_no {k : Nat} {ver : Int} {x : Fld} (h : okP k ver x = false) : belR k ver x = none := by
  unfold okP at h
  unfold belR
  cases hf : (rowsIn ver).find? (isField k (fNum x)) with
  | none => rfl
  | some r =>
    have hf' : finR k ver x = some r := hf
    rw [hf'] at h
    simp only [Option.isSome_some, Bool.true_and, spT] at h
    simp only
    rw [if_neg (by simpa using h)]
theorem okP_yes {k : Nat} {ver : Int} {x : Fld} (h : okP k ver x = true) : ∃ r, belR k ver x = some r ∧ spN (finR k ver x) = r.2.1 ∧ spT (finR k ver x) = r.2.2.1 ∧ spS (finR k ver x) = r.2.2.2.1 := by
  unfold okP at h
  cases hf : (rowsIn ver).find? (isField k (fNum x)) with
  | none =>
    have hf' : finR k ver x = none := hf
    rw [hf'] at h; cases h
  | some r =>
    have hf' : finR k ver x = some r := hf
    rw [hf'] at h ⊢
    simp only [Option.isSome_some, Bool.true_and, spT] at h
    refine ⟨r, ?_, rfl, rfl, rfl⟩
    unfold belR
    rw [hf]
    simp only
    rw [if_pos (by simpa using h)]
/-- a part's cells -/
def partA (k : Nat) (ver : Int) (p : FFV) : Array Value := #[.int .i64 p.1.1, .int .u8 (p.1.2.1 : Nat), .int .u64 (p.1.2.2.1 : Nat), p.2, .int .i64 p.1.2.2.2.2, .int .i64 (spN (finR k ver p.1)), .int .i64 (spT (finR k ver p.1)), .int .i64 (spS (finR k ver p.1)), .bool (okP k ver p.1)]
def encP (k : Nat) (ver : Int) (p : FFV) : Array Value := #[.agg (partA k ver p)]
/-- what a round keeps -/
def KpP (n₀ base : Nat) (v : Value) (ps : List FFV) (Bl Bk Bv : Nat) (A B : World) : Prop := Below n₀ A B ∧ (FieldsV A base v ps → FieldsV B base v ps) ∧ KeepB Bl 95 A B ∧ KeepB Bk 5 A B ∧ KeepB Bv 3 A B
def OkP (ps : List FFV) (pre : List FFV) (x : FFV) (W : World) : Prop := pre ++ [x] <+: ps ∧ Bs W x.2 (fB x.1)
theorem parts9_any (k : Nat) (ver : Int) (a : Option Addr) (n c : Nat) (w : World) : Calls Tryz.prog 91 #[.int .u8 k, .int .i64 ver, .slice a n c] w fun e w' =>
    e = .returned (.func (.func 113) #[] #[.pointer (some ⟨w.heap.size + 1 + 1, 0, none⟩), .pointer (some ⟨w.heap.size, 0, none⟩), .pointer (some ⟨w.heap.size + 1, 0, none⟩)]) ∧ w' = ((w.alloc (.cells #[.int .u8 k] 5)).alloc (.cells #[.int .i64 ver] 3)).alloc (.cells #[.slice a n c] 95) := by
  go_enter Tryz.func91, Tryz.ntmps91
  go_wp2
  go_ret
  exact ⟨rfl, rfl⟩
set_option maxRecDepth 100000 in
set_option maxHeartbeats 4000000 in
theorem parts9_iter (k : Nat) (ver : Int) (ps : List FFV) (v : Value) (Bl Bk Bv base n₀ : Nat) (w : World) (hn : n₀ ≤ w.heap.size) (hl : Blk w Bl 95 #[v]) (hk : Blk w Bk 5 #[.int .u8 k]) (hv : Blk w Bv 3 #[.int .i64 ver]) (hf : FieldsV w base v ps) (hps : ps.length ≤ 100000000) :
    IterW Tryz.prog 113 #[.pointer (some ⟨Bl, 0, none⟩), .pointer (some ⟨Bk, 0, none⟩), .pointer (some ⟨Bv, 0, none⟩)] (encP k ver) Grew (KpP n₀ base v ps Bl Bk Bv) (OkP ps) (fun xs => xs = ps) (fun _ => True) w := by
  intro lp J Jx W hW hJ hJx hY h0
  have hlW := hl.grew hW
  have hkW := hk.grew hW
  have hvW := hv.grew hW
  have hfW := hf.grew hW
  obtain ⟨a, c, rfl, -, -, -, -⟩ := hfW.flr.1.open
  have l0 := hlW.cell 0
  simp only [List.getElem?_toArray, List.getElem?_cons_zero] at l0
  have KF := Lib.hid (fun num W => find_any k ver num W)
  have KW := Lib.hid (fun t W => wire_any t W)
  have hnW : n₀ ≤ W.heap.size := by have := hW.size; omega
  clear hl hk hv hf hW hn
  refine callsIn_of_wp Tryz.func113 rfl trivial ?_ rfl
  simp only [Tryz.ntmps113, List.size_toArray, List.length_cons, List.length_nil, Nat.reduceAdd, Nat.reduceSub, Array.replicate_succ, Array.replicate_zero, List.push_toArray, List.append_toArray, List.nil_append, List.cons_append]
  gi_wp2
  gi_loopw [13] (fun i wr => ∃ q : Nat, i = .int .i64 q ∧ q ≤ ps.length ∧ J (ps.take q) wr ∧ n₀ ≤ wr.heap.size ∧ Blk wr Bl 95 #[.slice a ps.length c] ∧ Blk wr Bk 5 #[.int .u8 k] ∧ Blk wr Bv 3 #[.int .i64 ver] ∧ FieldsV wr base (.slice a ps.length c) ps) (fun i _ => ps.length - (intOf i).toNat)
  case atStart => exact ⟨0, rfl, Nat.zero_le _, by simpa using h0, hnW, hlW, hkW, hvW, hfW⟩
  case round =>
    obtain ⟨q, rfl, hq, hJr, hnr, hlr, hkr, hvr, hfr⟩ := hrel
    clear h0 hlW hkW hvW hfW hnW l0
    by_cases hlt : q < ps.length
    · obtain ⟨a', c', e, -, -, -, hcc⟩ := hfr.flr.1.open
      cases e
      obtain ⟨b, o, rfl, -⟩ := hcc (by omega)
      obtain ⟨x0, x1, x2, x3, x4, x5⟩ := fl_cells hfr.flr q hlt
      have hts : ps.take (q + 1) = ps.take q ++ [ps[q]] := List.take_succ_eq_append_getElem hlt
      have hpre : ps.take q ++ [ps[q]] <+: ps := by rw [← hts]; exact List.take_prefix _ _
      generalize hr : ps[q] = p at x0 x1 x2 x3 x4 x5 hts hpre
      obtain ⟨X, xv⟩ := p
      obtain ⟨xa, xn, xc, rfl, hxn⟩ := bs_shape x5
      have HTS := Lib.hid hts
      have HPRE := Lib.hid hpre
      have HX5 := Lib.hid x5
      obtain ⟨wa, hwa⟩ : ∃ wa, wa = wr.alloc (.cells #[.int .i64 X.1, .int .u8 (X.2.1 : Nat), .int .u64 (X.2.2.1 : Nat), .slice xa xn xc, .int .i64 X.2.2.2.2] 101) := ⟨_, rfl⟩
      have ga : Grew wr wa := by rw [hwa]; exact grew_alloc _ _
      have ka : Blk wa wr.heap.size 101 #[.int .i64 X.1, .int .u8 (X.2.1 : Nat), .int .u64 (X.2.2.1 : Nat), .slice xa xn xc, .int .i64 X.2.2.2.2] := by rw [hwa]; exact Blk.new _ _ _
      have KA := Lib.hid ka
      have GA := Lib.hid ga
      have k0 := (hkr.grew ga).cell 0
      have v0 := (hvr.grew ga).cell 0
      simp only [List.getElem?_toArray, List.getElem?_cons_zero] at k0 v0
      obtain ⟨y0, y1, y2, y3, y4, -⟩ := cells5 ka
      rw [hwa] at k0 v0 y0 y1 y2 y3 y4
      have HWA := Lib.hid hwa
      have zi : (q : Int) < (ps.length : Int) := by omega
      have z0 : (0 : Int) ≤ (q : Int) := by omega
      have HLR := Lib.hid hlr
      have HKR := Lib.hid hkr
      have HVR := Lib.hid hvr
      have HFR := Lib.hid hfr
      have KF1 := Lib.hid (KF.out (fNum X))
      clear hr hts hpre x5 ka ga hcc hwa hlr hkr hvr hfr
      gi_wp2_with fail
      rw [← HWA.out]
      refine (callsIn_wide.2 (KF1.out _)).mono ?_
      obtain ⟨F, hF⟩ : ∃ F, F = finR k ver X := ⟨_, rfl⟩
      rw [show (rowsIn ver).find? (isField k (fNum X)) = F from hF.symm, foundV_sp]
      rintro e w3 ⟨rfl, g3⟩
      obtain ⟨wb, hwb⟩ : ∃ wb, wb = w3.alloc (.cells #[.int .i64 (spN F), .int .i64 (spT F), .int .i64 (spS F)] 82) := ⟨_, rfl⟩
      have gb : Grew w3 wb := by rw [hwb]; exact grew_alloc _ _
      have kb : Blk wb w3.heap.size 82 #[.int .i64 (spN F), .int .i64 (spT F), .int .i64 (spS F)] := by rw [hwb]; exact Blk.new _ _ _
      have gall : Grew wr wb := (GA.out.trans g3).trans gb
      have KB := Lib.hid kb
      have KA2 := Lib.hid ((KA.out.grew g3).grew gb)
      have HJ := Lib.hid (hJ _ _ _ hJr gall)
      have HOK := Lib.hid (show OkP ps (ps.take q) (X, .slice xa xn xc) wb from ⟨HPRE.out, HX5.out.grew gall⟩)
      have HYR := Lib.hid (hY _ _ _ HJ.out HOK.out)
      have HLR2 := Lib.hid (HLR.out.grew gall)
      have HKR2 := Lib.hid (HKR.out.grew gall)
      have HVR2 := Lib.hid (HVR.out.grew gall)
      have HFR2 := Lib.hid (HFR.out.grew gall)
      have hnb : n₀ ≤ wb.heap.size := by have := gall.size; omega
      have e1 : partA k ver (X, .slice xa xn xc) = #[.int .i64 X.1, .int .u8 (X.2.1 : Nat), .int .u64 (X.2.2.1 : Nat), .slice xa xn xc, .int .i64 X.2.2.2.2, .int .i64 (spN F), .int .i64 (spT F), .int .i64 (spS F), .bool (F.isSome && (wireV (spT F)).1 == (X.2.1 : Int))] := by unfold partA okP; rw [← hF]
      simp only [encP, e1] at HYR
      obtain ⟨d0, d1, d2⟩ : wb.cell? ⟨w3.heap.size, 0, none⟩ = some (.int .i64 (spN F)) ∧ wb.cell? ⟨w3.heap.size, 1, none⟩ = some (.int .i64 (spT F)) ∧ wb.cell? ⟨w3.heap.size, 2, none⟩ = some (.int .i64 (spS F)) := ⟨by rw [kb.cell]; rfl, by rw [kb.cell]; rfl, by rw [kb.cell]; rfl⟩
      rw [hwb] at d0 d1 d2
      have HWB := Lib.hid hwb
      have KW1 := Lib.hid (KW.out (spT F))
      clear g3 gb kb gall e1 k0 v0 y0 y1 y2 y3 y4 hJr hJ hJx hY x0 x1 x2 x3 x4 hwb HX5 HPRE HLR HKR HVR HFR KF KF1 HWA KA hnr hF
      gi_wp2_with fail
      rw [← HWB.out]
      refine (callsIn_wide.2 (KW1.out _)).mono ?_
      rintro e w5 ⟨rfl, rfl⟩
      obtain ⟨y0, y1, y2, y3, y4, -⟩ := cells5 KA2.out
      obtain ⟨d0, d1, d2⟩ : wb.cell? ⟨w3.heap.size, 0, none⟩ = some (.int .i64 (spN F)) ∧ wb.cell? ⟨w3.heap.size, 1, none⟩ = some (.int .i64 (spT F)) ∧ wb.cell? ⟨w3.heap.size, 2, none⟩ = some (.int .i64 (spS F)) := ⟨by rw [KB.out.cell]; rfl, by rw [KB.out.cell]; rfl, by rw [KB.out.cell]; rfl⟩
      obtain ⟨fn, tmps, assign, body, hy, hR⟩ := HYR.out
      cases hs : F.isSome
      all_goals (
        simp only [hs, Bool.false_and, Bool.true_and] at hy
        gi_wp2_with fail
        (refine hR.mono ?_)
        rintro e w5 (⟨rfl, hJ5, hk1, hk2, hk3, hk4, hk5⟩ | ⟨rfl, hJx5⟩)
        · clear hy hR y0 y1 y2 y3 y4 d0 d1 d2
          gi_wp2
          refine ⟨⟨q + 1, by go_num, by omega, by rw [HTS.out]; exact hJ5, by have := hk1.size; omega, hk3 _ HLR2.out, hk4 _ HKR2.out, hk5 _ HVR2.out, hk2 HFR2.out⟩, ?_⟩
          simp [intOf]; omega
        · clear hy hR y0 y1 y2 y3 y4 d0 d1 d2
          gi_wp2
          (refine bodyPost_ret (results_none rfl _ _ _) rfl ?_)
          exact ⟨⟨_, rfl⟩, .inr ⟨_, trivial, hJx5⟩⟩)
    · obtain rfl : q = ps.length := by omega
      rw [List.take_length] at hJr
      gi_wp2
      go_end0
      exact ⟨⟨_, rfl⟩, .inl ⟨ps, rfl, hJr⟩⟩
end Go.Proofs.YtbjoohafgkodcaaGreat
