/- stream.Swap: contract. -/
import Derived.Test.YtgdkgmpgkocnlaaStD
import Derived.Test.YtgdkgmpgkocnlaaStF
namespace Go.Proofs.Ytgdkgmpgkocnlaa
open Go Go.RowKit Go.Shelf
/-- frames in another order -/
def swapM (fs : List Frm) (ord : List Int) : List Frm := if fs = [] then [] else ord.map fun k => fs.getD (restN k fs.length) (0, [])
set_option maxRecDepth 100000 in
set_option maxHeartbeats 4000000 in
theorem sswap_any (A : List FA) (ord : List Int) (v u : Value) (w : World) (h : FsR w v A) (ho : Sl w u ord.length 1 (ord.map (Value.int .i64))) (hb : ∀ k ∈ ord, -9223372036854775808 ≤ k ∧ k ≤ 9223372036854775807) (hA : A.length ≤ 1000) (hO : ord.length ≤ 1000) (hpl : ∀ x ∈ A, x.1.2.length ≤ 1000000000) :
    Calls Try.prog 13 #[v, u] w fun e w' => ∃ v', e = .returned v' ∧ (∃ B, FsO w' w.heap.size v' B ∧ B.map (·.1) = swapM (A.map (·.1)) ord) ∧ Grew w w' := by
  obtain ⟨a, n, c, rfl, hn, h1, h2⟩ := h.open
  subst hn
  obtain ⟨ao, co, rfl, o1, o2, -, oh⟩ := ho.open
  unfold maxLen at o2
  have HA := Lib.hid h
  by_cases h0 : A = []
  · subst h0
    clear h ho
    go_enter Try.func13, Try.ntmps13
    go_wp2
    go_ret
    exact ⟨_, rfl, ⟨[], FsO.nil _ _, rfl⟩, Below.refl _ _⟩
  have hAp : 0 < A.length := List.length_pos_iff.2 h0
  have hAz : ((A.length : Int) == 0) = false := by simpa using h0
  have hne : A.map (·.1) ≠ [] := by simpa using h0
  have HOH := Lib.hid oh
  have HB := Lib.hid hb
  have HPL := Lib.hid hpl
  have HNE := Lib.hid hne
  clear h ho oh hb h0 hpl hne
  go_enter Try.func13, Try.ntmps13
  go_wp2_with fail
  go_loopw [5, 14] (fun vo i wr => ∃ (k : Nat) (B : List FA), k ≤ ord.length ∧ i = .int .i64 k ∧ FsO wr w.heap.size vo B ∧ RowKit.Hid (B.map (·.1) = swapM (A.map (·.1)) (ord.take k)) ∧ RowKit.Hid (B.length = k) ∧ Grew w wr) (fun _ i _ => ord.length - (intOf i).toNat)
  case atStart => exact ⟨0, [], Nat.zero_le _, rfl, FsO.nil _ _, Lib.hid (by unfold swapM; rw [if_neg HNE.out]; rfl), Lib.hid rfl, Below.refl _ _⟩
  case round =>
    obtain ⟨k, B, hk, rfl, hB, hm, hBl, hG⟩ := hrel
    by_cases hlt : k < ord.length
    · obtain ⟨bo, oo, rfl, c1⟩ := HOH.out (by omega)
      have y0 := (below_ext hG) _ _ (c1 k (.int .i64 ord[k]) (by simp [hlt]))
      obtain ⟨hb1, hb2⟩ := HB.out ord[k] (List.getElem_mem hlt)
      obtain ⟨b, o, rfl, hcl⟩ := (HA.out.grew hG).cells (by omega)
      have hrl := restN_lt ord[k] hAp
      have hm2 : swapM (A.map (·.1)) (ord.take (k + 1)) = swapM (A.map (·.1)) (ord.take k) ++ [(A[restN ord[k] A.length]).1] := by
        unfold swapM
        rw [if_neg HNE.out, if_neg HNE.out, List.take_succ_eq_append_getElem hlt, List.map_append]
        simp only [List.map_cons, List.map_nil, List.length_map]
        congr 2
        rw [List.getD_eq_getElem?_getD, List.getElem?_eq_getElem (by rw [List.length_map]; exact hrl), Option.getD_some, List.getElem_map]
      have kr := fun W => srest_any ord[k] _ A.length rfl hAp (by omega) hb1 hb2 W
      generalize ord[k] = z at y0 hrl hm2 kr
      obtain ⟨r, hr⟩ : ∃ r, r = restN z A.length := ⟨_, rfl⟩
      simp only [← hr] at hm2 kr hrl
      obtain ⟨x0, x1, x2⟩ := hcl r hrl
      have hpl := HPL.out A[r] (List.getElem_mem hrl)
      generalize A[r].1 = f at x0 x2 hm2 hpl
      obtain ⟨ua, uc, e⟩ := bs_len x2
      rw [e] at x1 x2
      have KR := Lib.hid kr
      have HM2 := Lib.hid hm2
      have X2 := Lib.hid x2
      obtain ⟨ob, obn, obc, rfl, -, -, -⟩ := hB.fsr.open
      have HBB := Lib.hid hB
      have z0 : (0 : Int) ≤ (k : Int) := by omega
      have z1 : (k : Int) < (ord.length : Int) := by omega
      have z2 : (r : Int) < (A.length : Int) := by omega
      clear hcl c1 e x2 kr hm2 hB hr
      go_wp2_with fail
      refine (KR.out _).mono ?_
      rintro y w1 ⟨rfl, rfl⟩
      go_wp2_with fail
      refine (sclone_any f.2 _ _ (X2.out.grew (grew_alloc _ _)) (by omega)).mono ?_
      rintro y w2 ⟨v2, rfl, p2, g2⟩
      have gA := (grew_alloc wr (.cells #[.int .u8 (f.1.toNat : Int), .slice ua f.2.length uc] 29)).trans g2
      have kb : Blk w2 wr.heap.size 29 #[.int .u8 (f.1.toNat : Int), .slice ua f.2.length uc] := (Blk.new wr _ _).grew g2
      obtain ⟨va, vc, rfl⟩ := bs_len (Sl.of_own p2)
      have q0 : w2.cell? ⟨wr.heap.size, 0, none⟩ = some (.int .u8 (f.1.toNat : Int)) := kb.cell 0
      have q1 : w2.cell? ⟨wr.heap.size, 1, none⟩ = some (.slice ua f.2.length uc) := kb.cell 1
      have f1 := kb.frozen 1
      obtain ⟨W2, hW2⟩ : ∃ W2, W2 = w2.setCell ⟨wr.heap.size, 1, none⟩ (.slice va f.2.length vc) := ⟨_, rfl⟩
      have kb2 : Blk W2 wr.heap.size 29 #[.int .u8 (f.1.toNat : Int), .slice va f.2.length vc] := by rw [hW2]; exact kb.set 1 _
      have r0 : W2.cell? ⟨wr.heap.size, 0, none⟩ = some (.int .u8 (f.1.toNat : Int)) := kb2.cell 0
      have r1 : W2.cell? ⟨wr.heap.size, 1, none⟩ = some (.slice va f.2.length vc) := kb2.cell 1
      have gW : Grew wr W2 := by rw [hW2]; exact grew_set gA (Nat.le_refl _) _
      have oB := HBB.out.grew gW
      have hp2 : PayV W2 w.heap.size (.slice va f.2.length vc) f.2 := by
        rw [hW2]
        exact (PayV.of_own (own_set p2 ⟨wr.heap.size, 1, none⟩ _ (own_ne p2 (show wr.heap.size < (wr.alloc (.cells #[.int .u8 (f.1.toNat : Int), .slice ua f.2.length uc] 29)).heap.size by simp)))).mono (by have := hG.size; simp; omega)
      have gN := grew_alloc W2 (.cells #[.int .u8 (f.1.toNat : Int), .slice va f.2.length vc] 29)
      have hsl : Sl (W2.alloc (.cells #[.int .u8 (f.1.toNat : Int), .slice va f.2.length vc] 29)) (.slice (some ⟨W2.heap.size, 0, none⟩) 1 1) 1 2 (fav (f, .slice va f.2.length vc)) := Sl.lit W2 29 (0, 0) #[.int .u8 (f.1.toNat : Int), .slice va f.2.length vc] 1 2 rfl (by unfold maxLen; omega)
      have OB := Lib.hid (oB.grew gN)
      have HP := Lib.hid (hp2.grew gN)
      have HSL := Lib.hid hsl
      have GG := (hG.trans gW).trans gN
      clear kb kb2 gA p2 hp2 oB hsl HBB x0 x1 y0
      go_upto_region 9 with (fail)
      rw [← hW2]
      clear hW2
      go_wp2_with (at_builtin; refine wpList_pushFr rfl _ _ rfl w.heap.size _ B rfl OB.out _ rfl (f, .slice va f.2.length vc) HSL.out HP.out (by have := hBl.out; omega) GG.size ?_; intro v' w3 hown3 hB3)
      go_roundw
      case rel => exact ⟨k + 1, _, by omega, by go_num, hown3, Lib.hid (by rw [List.map_append, hm.out, HM2.out]; rfl), Lib.hid (by rw [List.length_append, hBl.out]; rfl), Below.trans GG hB3⟩
      case measure => simp [intOf]; omega
    · obtain rfl : k = ord.length := by omega
      have hm2 := hm.out
      rw [List.take_length] at hm2
      go_wp2
      go_ret
      exact ⟨_, rfl, ⟨B, hB, hm2⟩, hG⟩
end Go.Proofs.Ytgdkgmpgkocnlaa
