/- What every law's row needs beside its walk: arguments that read as before behind a call that only makes new memory; opening arguments. -/
import Derived.Test.YtbjoohafgkodcaaGreatPay
import Derived.ProofKit
import Derived.ChangeSame
import Derived.Carry
import Derived.JoinedCond
import Derived.OpenShut
namespace Go.Proofs.YtbjoohafgkodcaaGreat
open Go Go.RowKit Go.WideShapes Go.ChangeShapes Go.ChangeAt

theorem own0 : ownKnob Tryz.prog.godebug = none := by kernel_rfl
theorem laid0 : laidOutB Tryz.prog = true := by kernel_rfl

section
variable {H : Type} {enc : TypeId × Value → H}
theorem all_stay {W W' : World} (hsz : Below W.heap.size W W') {sp : Nat → Bool} : ∀ {ts : List TypeId} {vs : List Value} {ds : List (DataW H)} {p : List MemPlace},
    (∀ t ∈ ts, Tryz.prog.readableRec t = true ∧ t < Tryz.prog.types.size) → DataW.TrodAll enc Tryz.prog W 0 (fun _ => true) true ts vs ds p → (∀ x ∈ p, x.block < W.heap.size) → (∀ x ∈ p, sp x.block = true) →
    DataW.TrodAll enc Tryz.prog W' 0 sp true ts vs ds p
  | [], [], [], _, _, h, _, _ => h
  | t :: ts, v :: vs, d :: ds, _, hr, ⟨p1, p2, h1, h2, e⟩, hlt, hsp => by
    subst e
    refine ⟨p1, p2, ?_, ?_, rfl⟩
    · obtain ⟨hr1, hr2⟩ := hr t (List.mem_cons_self ..)
      exact WideElems.Trod_stays laid0 hr1 hr2 h1 (fun x hx => hsz.same (hlt x (List.mem_append_left _ hx))) (fun x hx => hsp x (List.mem_append_left _ hx))
    · exact all_stay hsz (fun t ht => hr t (List.mem_cons_of_mem _ ht)) h2 (fun x hx => hlt x (List.mem_append_right _ hx)) (fun x hx => hsp x (List.mem_append_right _ hx))
  | [], [], _ :: _, _, _, h, _, _ => h.elim
  | [], _ :: _, _, _, _, h, _, _ => h.elim
  | _ :: _, [], _, _, _, h, _, _ => h.elim
  | _ :: _, _ :: _, [], _, _, h, _, _ => h.elim

set_option maxRecDepth 100000 in
/-- a law that returns true and makes at most new memory does what its row says -/
theorem law_post {f : Func} {s : ChangeSpec} {apart fresh handsOn again : Bool} {W W' : World} {args : Array Value} {ds gs : List (DataW H)} {before : List MemPlace}
    (hrt : f.resultTypes = #[4]) (hsv : s.vars = []) (hs : s.fn H (ds ++ gs) = { results := [.lit (.bool true)], args := ds })
    (hr : ∀ t ∈ f.params.toList, Tryz.prog.readableRec t = true ∧ t < Tryz.prog.types.size)
    (hW : DataW.Whole enc Tryz.prog f.params.toList s.vars apart W args.toList ds gs before) (hb : Grew W W') :
    s.post enc Tryz.prog f apart fresh handsOn again W args (.bool true) W' := by
  have hlt := hW.lt
  have hW0 := hW
  obtain ⟨p, q, hA, hV, e, hz, hn⟩ := hW
  rw [hsv] at hV
  obtain ⟨e1, e2⟩ := trodVars_none hV
  subst e1
  subst e2
  rw [List.append_nil] at e
  subst e
  have hres : ∀ (b : Nat) (sp : Nat → Bool) (hd : Bool), DataW.TrodAll enc Tryz.prog W' b sp hd f.resultTypes.toList ((Value.bool true).resultList f.resultTypes.size) (s.fn H (ds ++ [])).results [] := fun b sp hd => by
    rw [hs, hrt]
    exact trodAll_cons_mk (shut_bool Tryz.underlying4 true) trodAll_mk0
  have hargs : ∀ sp : Nat → Bool, (∀ x ∈ before, sp x.block = true) → DataW.TrodAll enc Tryz.prog W' 0 sp true f.params.toList args.toList (s.fn H (ds ++ [])).args before := fun sp h => by
    rw [hs]; exact all_stay hb hr hA hlt h
  have hvr : (s.fn H (ds ++ [])).vars = [] := by rw [hs]
  have hvars : ∀ sp : Nat → Bool, DataW.TrodVars enc Tryz.prog W' sp s.vars (s.fn H (ds ++ [])).vars [] := fun sp => by rw [hsv, hvr]; rfl
  refine ⟨ds, [], before, [], before, [], hW0, hres _ _ _, hargs _ (fun x hx => by simpa using hlt x hx), hvars _, World.keptBut_mono (fun x hx => ⟨hx, .inr (.inl hx)⟩) (hb.frame (· ∈ before)), fun _ => ⟨?_, ?_⟩⟩
  · rw [hrt]
    exact ok_one (f := { (default : Func) with resultTypes := #[4] }) rfl rfl (okWide_bool_mk Tryz.underlying4 true)
  · refine ⟨[DataW.lit (.bool true)] ++ ds, [], before, ⟨before, [], ?_, (by have := hvars (fun _ => true); rwa [hvr] at this), by simp, ?_, hn⟩, fun x hx _ => hx⟩
    · have := trodAll_append (hargs (fun _ => true) (fun _ _ => rfl)) (hres 0 (fun _ => true) true)
      rw [hs] at this
      exact this
    · intro b off hp
      rw [hb.frozen (hlt _ hp)]
      exact hz b off hp

set_option maxRecDepth 100000 in
/-- an argument of bytes -/
theorem open_bytes {W : World} {b0 : Nat} {v : Value} {d : DataW H} {p : List MemPlace} (hv : Value.okWide Tryz.prog W .any b0 22 v) (h : DataW.Trod enc Tryz.prog W 0 (fun _ => true) true 22 v d p) : ∃ l : List UInt8, Bs W v l := by
  obtain ⟨a, len, cap, rfl⟩ := okWide_slice Tryz.underlying22 hv
  obtain ⟨fuel, hf⟩ := h
  rcases open_ints Tryz.underlying22 Tryz.underlying5 (by kernel_rfl) hf with ⟨hcs, hx⟩ | ⟨ad, len', cap', zs, hcs, _, hl, hm, hz, hx, hcell, hwz⟩
  · simp [Value.cells] at hcs
    obtain ⟨rfl, rfl, rfl⟩ := hcs
    exact ⟨[], Sl.nil W 1⟩
  · simp [Value.cells] at hcs
    obtain ⟨rfl, rfl, rfl⟩ := hcs
    simp only [if_true] at hz
    have hb : ∀ z ∈ zs, 0 ≤ z ∧ z ≤ 255 := fun z hz => bounds_u8 (hwz z hz)
    refine ⟨(zs.take len).map fun z => UInt8.ofNat z.toNat, ?_⟩
    have hlen : ((zs.take len).map fun z => UInt8.ofNat z.toNat).length = len := by simp; omega
    refine ⟨by simp, some ad, cap, by rw [hlen], by rw [hlen]; exact hl, hm, (fun h => by cases h), ?_⟩
    rintro ad' e j u hu
    cases e
    have hj : j < len := by
      have := (List.getElem?_eq_some_iff.1 hu).1
      simp at this; omega
    rw [hcell j (by omega)]
    have hg : zs[j]? = some zs[j] := List.getElem?_eq_getElem (by omega)
    have hbj := hb zs[j] (List.getElem_mem _)
    have e2 : (bv ((zs.take len).map fun z => UInt8.ofNat z.toNat))[j]? = some (.int .u8 zs[j]) := by
      simp only [bv, List.map_map, List.getElem?_map, List.getElem?_take_of_lt hj, hg, Option.map_some, Function.comp]
      congr 2
      rw [UInt8.toNat_ofNat']
      omega
    rw [e2] at hu
    cases hu
    simp [List.getD, hg]
end

end Go.Proofs.YtbjoohafgkodcaaGreat
