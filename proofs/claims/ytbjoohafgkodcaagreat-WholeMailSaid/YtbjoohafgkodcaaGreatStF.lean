/- Package stream: Frames, Swap: contracts. -/
import Derived.Test.YtbjoohafgkodcaaGreatStI
import Derived.Test.YtbjoohafgkodcaaGreatFr7
namespace Go.Proofs.YtbjoohafgkodcaaGreat
open Go Go.RowKit Go.Shelf

abbrev faultS (e a : Nat) : Value := .agg #[.int .i64 e, .int .i64 a]
theorem loadVar_faultS (w : World) (b : Nat) (cs : Array Value) (hs : cs.size = 2) (h : Blk w b 32 cs) : (loadVar 32 ⟨b, 0, none⟩).run Tryz.prog w = .ok (.agg cs) w :=
  run_loadVar_row w b _ _ cs (0, 0) _ h Tryz.underlying32 rfl (by rw [hs]; kernel_rfl)
theorem own_ne {w : World} {base b : Nat} {v : Value} {l : List UInt8} (h : OwnB w base v l) (hb : b < base) : v.ownBlock ≠ some b := fun he => by
  have := (own_lt h b he).1; omega
/-- the first frame that is too long -/
def longAt (fs : List Frm) : Option Nat := fs.findIdx? fun f => decide (8192 < f.2.length)
def framesM (fs : List Frm) : List UInt8 × Nat × Nat := match longAt fs with
  | some i => ([], 2, i)
  | none => (fjoin fs, 0, 0)
theorem framesM_long {fs : List Frm} {k : Nat} (hk : k < fs.length) (h1 : ∀ j (hj : j < k), (fs[j]).2.length ≤ 8192) (h2 : 8192 < (fs[k]).2.length) : framesM fs = ([], 2, k) := by
  have : longAt fs = some k := by
    unfold longAt
    rw [List.findIdx?_eq_some_iff_getElem]
    exact ⟨hk, by simpa using h2, fun j hj => by have := h1 j hj; simp; omega⟩
  unfold framesM
  rw [this]
theorem framesM_ok {fs : List Frm} (h : ∀ f ∈ fs, f.2.length ≤ 8192) : framesM fs = (fjoin fs, 0, 0) := by
  have : longAt fs = none := by
    unfold longAt
    rw [List.findIdx?_eq_none_iff]
    intro f hf
    have := h f hf
    simp; omega
  unfold framesM
  rw [this]
theorem fjoin_most : ∀ (fs : List Frm), (∀ f ∈ fs, f.2.length ≤ 8192) → (fjoin fs).length ≤ fs.length * 8201
  | [], _ => by simp [fjoin]
  | f :: fs, h => by
    have := fjoin_most fs (fun g hg => h g (List.mem_cons_of_mem _ hg))
    have h1 := h f List.mem_cons_self
    simp only [fjoin, List.flatMap_cons, List.length_append, fput_length, List.length_cons] at this ⊢
    omega
set_option maxRecDepth 100000 in
set_option maxHeartbeats 4000000 in
theorem sframes_any (A : List FA) (v : Value) (w : World) (h : FsR w v A) (hl : A.length ≤ 1000) :
    Calls Tryz.prog 21 #[v] w fun e w' => ∃ v', e = .returned (.tuple #[v', faultS (framesM (A.map (·.1))).2.1 (framesM (A.map (·.1))).2.2]) ∧ OwnB w' w.heap.size v' (framesM (A.map (·.1))).1 ∧ Grew w w' := by
  obtain ⟨a, n, c, rfl, hn, h1, h2⟩ := h.open
  subst hn
  have HA := Lib.hid h
  clear h
  obtain ⟨W0, hW0⟩ : ∃ W0, W0 = w.alloc (.cells #[.int .i64 0, .int .i64 0] 32) := ⟨_, rfl⟩
  have g0 : Grew w W0 := by rw [hW0]; exact grew_alloc _ _
  have k0 : Blk W0 w.heap.size 32 #[.int .i64 0, .int .i64 0] := by rw [hW0]; exact Blk.new _ _ _
  have G0 := Lib.hid g0
  have K0 := Lib.hid k0
  clear g0 k0
  go_enter Tryz.func21, Tryz.ntmps21
  go_upto_region 1 with (fail)
  rw [← hW0]
  clear hW0
  go_wp2_with fail
  go_loopw [4, 11] (fun vo i wr => ∃ k : Nat, k ≤ A.length ∧ i = .int .i64 k ∧ OwnB wr W0.heap.size vo (fjoin ((A.map (·.1)).take k)) ∧ Grew W0 wr ∧ RowKit.Hid (∀ j (hj : j < k), ((A.map (·.1))[j]?.getD (0, [])).2.length ≤ 8192)) (fun _ i _ => A.length - (intOf i).toNat)
  case atStart => exact ⟨0, Nat.zero_le _, rfl, by simpa [fjoin] using ownB_nil _ _, Below.refl _ _, fun j hj => absurd hj (Nat.not_lt_zero j)⟩
  case round =>
    obtain ⟨k, hk, rfl, hown, hG, hall⟩ := hrel
    by_cases hlt : k < A.length
    · obtain ⟨b, o, rfl, hcl⟩ := ((HA.out.grew G0.out).grew hG).cells (by omega)
      obtain ⟨x0, x1, x2⟩ := hcl k hlt
      have hlk : k < (A.map (·.1)).length := by rw [List.length_map]; exact hlt
      have hs : (A.map (·.1)).take (k + 1) = (A.map (·.1)).take k ++ [A[k].1] := by rw [List.take_succ_eq_append_getElem hlk]; simp
      have hfk : (A.map (·.1))[k] = A[k].1 := by simp
      have hjl := fjoin_most ((A.map (·.1)).take k) (fun f hf => by
        obtain ⟨j, hj, rfl⟩ := List.getElem_of_mem hf
        rw [List.length_take] at hj
        have := hall.out j (by omega)
        rw [List.getElem?_eq_getElem (by omega), Option.getD_some] at this
        rw [List.getElem_take]; exact this)
      have hjl2 : (fjoin ((A.map (·.1)).take k)).length ≤ 8201000 := by
        have : ((A.map (·.1)).take k).length ≤ 1000 := by rw [List.length_take, List.length_map]; omega
        omega
      have kf := K0.out.grew hG
      obtain ⟨oa, oc, rfl⟩ := bs_len (Sl.of_own hown)
      obtain ⟨ua, uc, e⟩ := bs_len x2
      rw [e] at x1 x2
      by_cases hlong : 8192 < A[k].1.2.length
      · have hM := framesM_long (fs := A.map (·.1)) hlk (fun j hj => by
          have := hall.out j hj
          rw [List.getElem?_eq_getElem (by omega), Option.getD_some] at this
          exact this) (by rw [hfk]; exact hlong)
        have HM := Lib.hid hM
        have kp := fun W (g : Grew wr W) => fput_long A[k].1 _ W (x2.grew g) hlong
        generalize A[k].1 = f at x0 x1 x2 kp hlong
        have KP := Lib.hid kp
        have KF := Lib.hid kf
        clear hcl hs e x2 hown hjl hlk hM kp hfk kf hall
        go_wp2_with fail
        refine (KP.out _ (grew_alloc _ _)).mono ?_
        rintro y w1 ⟨rfl, g1⟩
        have kf1 := (KF.out.grew (grew_alloc _ _)).grew g1
        have G1 := ((G0.out.trans hG).trans (grew_alloc _ (.cells #[.int .u8 (f.1.toNat : Int), .slice ua f.2.length uc] 42))).trans g1
        have q0 : w1.cell? ⟨w.heap.size, 0, none⟩ = some (.int .i64 0) := kf1.cell 0
        have q1 : w1.cell? ⟨w.heap.size, 1, none⟩ = some (.int .i64 0) := kf1.cell 1
        have f0 := kf1.frozen 0
        have f1 := kf1.frozen 1
        go_wp2
        have r1 := (kf1.set 0 (.int .i64 2)).set 1 (.int .i64 (k : Int))
        refine bodyPost_ret (results_tc rfl _ _ ⟨w.heap.size, 0, none⟩ _ _ rfl rfl (loadVar_faultS _ _ _ rfl r1)) rfl ?_
        refine ⟨_, by rw [HM.out]; rfl, by rw [HM.out]; exact ownB_nil _ _, grew_set (grew_set G1 (Nat.le_refl _) _) (Nat.le_refl _) _⟩
      · have hle : A[k].1.2.length ≤ 8192 := by omega
        have hall2 : RowKit.Hid (∀ j (hj : j < k + 1), ((A.map (·.1))[j]?.getD (0, [])).2.length ≤ 8192) := by
          refine Lib.hid fun j hj => ?_
          by_cases hjk : j < k
          · exact hall.out j hjk
          · obtain rfl : j = k := by omega
            rw [List.getElem?_eq_getElem hlk, Option.getD_some, hfk]; exact hle
        have kp := fun W (g : Grew wr W) => fput_any A[k].1 _ W (x2.grew g) hle
        have HS := Lib.hid hs
        generalize A[k].1 = f at x0 x1 x2 kp hle HS
        have KP := Lib.hid kp
        have HO := Lib.hid hown
        have hfl : (fput f).length ≤ 8201 := by rw [fput_length]; omega
        clear hcl hs e x2 hown hjl hlk kp hfk kf hall hlong
        go_wp2_with fail
        refine (KP.out _ (grew_alloc _ _)).mono ?_
        rintro y w1 ⟨v1, rfl, r1, g1⟩
        have gA := (grew_alloc wr (.cells #[.int .u8 (f.1.toNat : Int), .slice ua f.2.length uc] 42)).trans g1
        have s1 := Sl.of_own r1
        have O1 := Lib.hid (own_grew HO.out gA)
        have GG := hG.trans gA
        clear r1 x0 x1
        go_wp2_with (at_builtin; refine wpList_push rfl _ _ rfl W0.heap.size _ _ rfl O1.out _ rfl (fput f) s1 (by omega) GG.size ?_; intro v' w2 hown2 hB2 _)
        go_roundw
        case rel => exact ⟨k + 1, by omega, by go_num, by rw [HS.out, fjoin_snoc]; exact hown2, Below.trans GG hB2, hall2⟩
        case measure => simp [intOf]; omega
    · obtain rfl : k = A.length := by omega
      have hM := framesM_ok (fs := A.map (·.1)) (fun f hf => by
        obtain ⟨j, hj, rfl⟩ := List.getElem_of_mem hf
        rw [List.length_map] at hj
        have := hall.out j hj
        rw [List.getElem?_eq_getElem (by rw [List.length_map]; exact hj), Option.getD_some] at this
        exact this)
      rw [List.take_of_length_le (by simp)] at hown
      have HM := Lib.hid hM
      have kf := K0.out.grew hG
      have HO := Lib.hid hown
      have q0 : wr.cell? ⟨w.heap.size, 0, none⟩ = some (.int .i64 0) := kf.cell 0
      have q1 : wr.cell? ⟨w.heap.size, 1, none⟩ = some (.int .i64 0) := kf.cell 1
      have f0 := kf.frozen 0
      have f1 := kf.frozen 1
      clear hM hown hall
      go_wp2
      have r1 := (kf.set 0 (.int .i64 0)).set 1 (.int .i64 0)
      refine bodyPost_ret (results_tc rfl _ _ ⟨w.heap.size, 0, none⟩ _ _ rfl rfl (loadVar_faultS _ _ _ rfl r1)) rfl ?_
      refine ⟨_, by rw [HM.out]; rfl, by rw [HM.out]; exact own_mono (own_set (own_set HO.out _ _ (own_ne HO.out K0.out.lt)) _ _ (own_ne HO.out K0.out.lt)) (by have := G0.out.size; omega), grew_set (grew_set (G0.out.trans hG) (Nat.le_refl _) _) (Nat.le_refl _) _⟩
/-- a row of the call's own of frames -/
def FsO (W : World) (base : Nat) (v : Value) (A : List FA) : Prop := W.ownsRow base 42 2 v A.length (A.flatMap fav) ∧ ∀ x ∈ A, PayV W base x.2 x.1.2
theorem FsO.nil (W : World) (base : Nat) : FsO W base (.slice none 0 0) [] := ⟨World.ownsRow_nil _ _ _ _, fun p h => by cases h⟩
theorem FsO.grew {W W' : World} {base : Nat} {v : Value} {A : List FA} (h : FsO W base v A) (g : Grew W W') : FsO W' base v A := ⟨own_grew h.1 g, fun p hp => (h.2 p hp).grew g⟩
theorem FsO.fsr {W : World} {base : Nat} {v : Value} {A : List FA} (h : FsO W base v A) : FsR W v A := ⟨Sl.of_own h.1, fun x hx => (h.2 x hx).bs⟩
theorem info_frm : (Tryz.prog.info? 42).map (fun i => (i.zero, i.size, i.bytes)) = some (some (.agg #[.int .u8 0, .slice none 0 0]), 2, 32) := by kernel_rfl
theorem fav_one (p : FA) {W : World} {l : List UInt8} (hp : Bs W p.2 l) : ∀ u ∈ fav p, u.oneCell' = true := by
  obtain ⟨a, n, c, e, _⟩ := bs_shape hp
  intro u hu
  simp only [fav, List.mem_cons, List.not_mem_nil, or_false] at hu
  rcases hu with rfl | rfl
  · rfl
  · rw [e]; rfl
theorem FsO.push {W w' : World} {base : Nat} {v v' : Value} {A : List FA} {p : FA} (h : FsO W base v A) (hp : PayV W base p.2 p.1.2)
    (h1 : w'.ownsRow base 42 2 v' (A.length + 1) (A.flatMap fav ++ fav p)) (h2 : W.grownBy w' v.ownBlock) : FsO w' base v' (A ++ [p]) := by
  refine ⟨by rw [List.length_append, List.flatMap_append]; simpa using h1, fun q hq => ?_⟩
  rcases List.mem_append.1 hq with hq | hq
  · exact (h.2 q hq).below h2 (row_ne h.1 (by decide) (h.2 q hq))
  · obtain rfl := List.mem_singleton.1 hq
    exact hp.below h2 (row_ne h.1 (by decide) hp)
theorem wpList_pushFr {W : World} {ops : Array Oper} {rest : List Oper} {o : Oper} {a : Act} {Q : Exit → Act → World → Prop} (hgd : o.guard = none) (s x : Operand)
    (ho : o.op = .call { callee := .builtin .append, args := #[s, x], argTypes := #[52, 52] })
    (base : Nat) (v : Value) (A : List FA) (hs : a.eval s = v) (hown : FsO W base v A) (xv : Value) (hx : a.eval x = xv) (p : FA) (hsl : Sl W xv 1 2 (fav p)) (hp : PayV W base p.2 p.1.2)
    (hlen : A.length + 1 ≤ 1000000000) (hbase : base ≤ W.heap.size)
    (h : ∀ v' w', FsO w' base v' (A ++ [p]) → Below base W w' → wpList Tryz.prog ops Q rest (a.put o.dst v') w') : wpList Tryz.prog ops Q (o :: rest) a W := by
  obtain ⟨i0, hi, hz0, hz1, hz2⟩ := info_parts info_frm
  exact wpList_app hgd s x 52 ho base 42 i0 (.agg #[.int .u8 0, .slice none 0 0]) 2 32 Tryz.underlying52 hi hz0 hz1 hz2 rfl (by decide) v A.length _ hs hown.1 xv 1 (fav p) hx hsl (fav_one p hp.bs) (by unfold maxLen; omega) (by omega) hbase
    fun v' w' h1 h2 => h v' w' (hown.push hp h1 h2) (grownBy_below h2 hown.1 hbase)
theorem grew22s (w : World) (o o' : Obj) : Grew w ((w.alloc o).alloc o') := (grew_alloc w o).trans (grew_alloc _ o')
theorem Sl.lit2 (w : World) (o : Obj) (e : TypeId) (cs : Array Value) (n k : Nat) (hs : cs.size = n * k) (hn : n ≤ 1000000) : Sl ((w.alloc o).alloc (.cells cs e)) (.slice (some ⟨w.heap.size + 1, 0, none⟩) n n) n k cs.toList := by
  have h := Sl.lit (w.alloc o) e (0, 0) cs n k hs (by unfold maxLen; omega)
  have e1 : (w.alloc o).heap.size = w.heap.size + 1 := by simp
  rwa [e1] at h
end Go.Proofs.YtbjoohafgkodcaaGreat
