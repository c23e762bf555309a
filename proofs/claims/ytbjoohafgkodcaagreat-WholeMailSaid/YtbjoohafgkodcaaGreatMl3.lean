/- Messages that are received: what stands in memory meanwhile. ; Slices of messages: read, own, pushed; as arguments. ; Messages that are sent are received: in plain words. No walk. -/
import Derived.Test.YtbjoohafgkodcaaGreatStL
import Derived.Test.YtbjoohafgkodcaaGreatFe4
import Derived.Test.YtbjoohafgkodcaaGreatSr1
import Derived.Test.YtbjoohafgkodcaaGreatOpn
import Derived.Test.YtbjoohafgkodcaaGreatEnb
import Derived.Test.YtbjoohafgkodcaaGreatWl4
import Derived.Test.YtbjoohafgkodcaaGreatStC
namespace Go.Proofs.YtbjoohafgkodcaaGreat
open Go Go.RowKit Go.Shelf

/-- what both feeders know of the bytes that came -/
def fInv (B K : List UInt8) (n told : Nat) : Prop := n = (walkL false B 0).2.2 ∧ K = B.drop n ∧ told = (walkL false B 0).1.length
theorem fInv.nil : fInv [] [] 0 0 := ⟨rfl, rfl, rfl⟩
theorem fInv.le {B K : List UInt8} {n told : Nat} (h : fInv B K n told) : n ≤ B.length ∧ n + K.length = B.length := by
  obtain ⟨h1, h2, _⟩ := h
  have := (walk_from false B 0).2.1
  rw [h2, List.length_drop]; omega
theorem fInv.step {B K : List UInt8} {n told : Nat} (m : List UInt8) (h : fInv B K n told) :
    fInv (B ++ m) (fdK K m false) (fdN K m n false) (walkL false (B ++ m) 0).1.length ∧ fdOut K m n false = (walkL false (B ++ m) 0).1.drop told ∧ told ≤ (walkL false (B ++ m) 0).1.length := by
  have hle := h.le
  obtain ⟨h1, h2, h3⟩ := h
  have hw := walk_append m B 0
  rw [Nat.sub_zero, ← h1, List.drop_append_of_le_length hle.1, ← h2] at hw
  have hs := walk_shift false n (K ++ m) 0
  rw [Nat.zero_add] at hs
  rw [hs] at hw
  have e1 : (walkL false (B ++ m) 0).1 = (walkL false B 0).1 ++ shF n (walkL false (K ++ m) 0).1 := by rw [hw]; rfl
  have e2 : (walkL false (B ++ m) 0).2.2 = (walkL false (K ++ m) 0).2.2 + n := by rw [hw]
  refine ⟨⟨?_, ?_, rfl⟩, ?_, ?_⟩
  · simp only [fdN, Bool.false_eq_true, if_false]; omega
  · simp only [fdN, fdK, Bool.false_eq_true, if_false]
    have hd : K ++ m = (B ++ m).drop n := by rw [List.drop_append_of_le_length hle.1, ← h2]
    rw [hd, List.drop_drop]
  · simp only [fdOut, Bool.false_eq_true, if_false]
    rw [e1, h3, List.drop_left]
  · rw [e1, h3, List.length_append]; omega
/-- what is found of a beginning of frames' bytes is a beginning of the frames -/
theorem walk_part {fs : List Frm} (h : ∀ f ∈ fs, f.2.length ≤ 8192) {B m : List UInt8} (e : B ++ m = fjoin fs) : (walkL false B 0).1.map (·.2) = fs.take (walkL false B 0).1.length ∧ (walkL false B 0).1.length ≤ fs.length := by
  have hw := walk_append m B 0
  rw [e, walk_all false fs 0 h] at hw
  have h1 := congrArg (fun x => x.1.map (·.2)) hw
  simp only [fplace_snd, List.map_append] at h1
  have h2 := congrArg List.length h1
  rw [List.length_append, List.length_map] at h2
  refine ⟨?_, by omega⟩
  conv => rhs; rw [h1]
  rw [List.take_left' (by rw [List.length_map])]
/-- what a feeder tells next -/
theorem mail_step {fs : List Frm} (h : ∀ f ∈ fs, f.2.length ≤ 8192) {B K m rest : List UInt8} {n told : Nat} (hi : fInv B K n told) (e : (B ++ m) ++ rest = fjoin fs) :
    ∃ told', fInv (B ++ m) (fdK K m false) (fdN K m n false) told' ∧ (fdOut K m n false).map (·.2) = (fs.take told').drop told ∧ told ≤ told' ∧ told' ≤ fs.length ∧ (fdOut K m n false).length = told' - told := by
  obtain ⟨h1, h2, h3⟩ := hi.step m
  obtain ⟨h4, h5⟩ := walk_part h e
  refine ⟨_, h1, ?_, h3, h5, ?_⟩
  · rw [h2, List.map_drop, h4]
  · rw [h2, List.length_drop]
theorem mail_get {fs : List Frm} {out : List Fnd} {told told' : Nat} (h1 : out.map (·.2) = (fs.take told').drop told) (h2 : told' ≤ fs.length) (h3 : out.length = told' - told) {k : Nat} (hk : k < out.length) : ∃ hq : told + k < fs.length, out[k].2 = fs[told + k] := by
  refine ⟨by omega, ?_⟩
  have e : (out.map (·.2))[k]? = some out[k].2 := by rw [List.getElem?_map, List.getElem?_eq_getElem hk]; rfl
  rw [h1, List.getElem?_drop, List.getElem?_take, if_pos (by omega), List.getElem?_eq_getElem (by omega)] at e
  exact (Option.some.inj e).symm
/-- all is told, and nothing is held -/
theorem mail_end {fs : List Frm} (h : ∀ f ∈ fs, f.2.length ≤ 8192) {B K : List UInt8} {n told : Nat} (hi : fInv B K n told) (e : B = fjoin fs) : told = fs.length ∧ K = [] := by
  obtain ⟨h1, h2, h3⟩ := hi
  have hw := walk_all false fs 0 h
  rw [← e] at hw
  rw [hw] at h1 h3
  refine ⟨by rw [h3, fplace_length], ?_⟩
  rw [h2, h1, Nat.zero_add, List.drop_length]
/-- a message's frame -/
def mFrm (ver : Int) (m : Msg) : Frm := (UInt8.ofNat m.k, msgB m (ofKind m.k (rowsIn ver)))
theorem chk_kind {m : Msg} {ver : Int} (h : (chkM m (ofKind m.k (rowsIn ver))).1 = 0) : m.k < 11 := by
  cases hL : ofKind m.k (rowsIn ver) with
  | nil => rw [hL] at h; simp [chkM] at h
  | cons r L =>
    have hr : r ∈ ofKind m.k (rowsIn ver) := by rw [hL]; exact List.mem_cons_self ..
    obtain ⟨h1, h2⟩ := ofKind_sub hr
    rw [← h2]; exact rows_kind r h1
theorem mfrm_dec {m : Msg} {ver : Int} (h : (chkM m (ofKind m.k (rowsIn ver))).1 = 0) (hn : ∀ i, i < 6 → m.n i < 18446744073709551616) :
    ((mFrm ver m).1.toNat = m.k) ∧ (mFrm ver m).2.length ≤ 8192 ∧ strM (mFrm ver m).1.toNat ver (mFrm ver m).2 = (cleanM m (ofKind m.k (rowsIn ver)), 0, 0) ∧ sameB (cleanM m (ofKind m.k (rowsIn ver))) m = true := by
  have hk := chk_kind h
  have h1 : (mFrm ver m).1.toNat = m.k := by show (UInt8.ofNat m.k).toNat = m.k; simp; omega
  obtain ⟨h2, h3⟩ := str_own h hn
  refine ⟨h1, (small_msg h hn).2.1, ?_, h3⟩
  rw [h1]; exact h2
end Go.Proofs.YtbjoohafgkodcaaGreat
namespace Go.Proofs.YtbjoohafgkodcaaGreat
open Go Go.RowKit Go.WideShapes Go.ChangeShapes Go.ChangeAt Go.Shelf Go.Deep

abbrev MV := Msg × Value
def mvv (x : MV) : List Value := (msgA x.1 x.2).toList
def MsR (W : World) (v : Value) (A : List MV) : Prop := Sl W v A.length 10 (A.flatMap mvv) ∧ ∀ x ∈ A, Tx W x.2 x.1.l
theorem MsR.grew {W W' : World} {v : Value} {A : List MV} (h : MsR W v A) (g : Grew W W') : MsR W' v A := ⟨h.1.grew g, fun x hx => (h.2 x hx).grew g⟩
theorem MsR.open {W : World} {v : Value} {A : List MV} (h : MsR W v A) : ∃ a n c, v = .slice a n c ∧ n = A.length ∧ n ≤ c ∧ c ≤ 9223372036854775807 := by
  obtain ⟨a, c, e, h1, h2, -, -⟩ := h.1.open
  unfold maxLen at h2
  exact ⟨a, A.length, c, e, rfl, h1, h2⟩
/-- the ten cells of a message at a place -/
def MAt (W : World) (b o : Nat) (x : MV) : Prop := W.cell? ⟨b, o, none⟩ = some (.int .u8 (x.1.k : Nat)) ∧ W.cell? ⟨b, o + 1, none⟩ = some (.int .u64 (x.1.n 0 : Nat)) ∧ W.cell? ⟨b, o + 2, none⟩ = some (.int .u64 (x.1.n 1 : Nat)) ∧ W.cell? ⟨b, o + 3, none⟩ = some (.int .u64 (x.1.n 2 : Nat)) ∧ W.cell? ⟨b, o + 4, none⟩ = some (.int .u64 (x.1.n 3 : Nat)) ∧
  W.cell? ⟨b, o + 5, none⟩ = some (.int .u64 (x.1.n 4 : Nat)) ∧ W.cell? ⟨b, o + 6, none⟩ = some (.int .u64 (x.1.n 5 : Nat)) ∧ W.cell? ⟨b, o + 7, none⟩ = some (.string (x.1.s 0)) ∧ W.cell? ⟨b, o + 8, none⟩ = some (.string (x.1.s 1)) ∧ W.cell? ⟨b, o + 9, none⟩ = some x.2
theorem MsR.cells {W : World} {a : Option Addr} {n c : Nat} {A : List MV} (h : MsR W (.slice a n c) A) : 0 < A.length → ∃ b off, a = some ⟨b, off, none⟩ ∧ ∀ j (hj : j < A.length), MAt W b (off + j * 10) A[j] ∧ Tx W A[j].2 A[j].1.l := by
  intro hl
  obtain ⟨a', c', e, _, _, _, h4⟩ := h.1.open
  cases e
  obtain ⟨b, o, rfl, hc⟩ := h4 (by omega)
  refine ⟨b, o, rfl, fun j hj => ?_⟩
  have g := fun i hi => flat_at (f := mvv) (k := 10) (fun _ => rfl) A j hj i hi
  have q : ∀ i u, i < 10 → (mvv A[j])[i]? = some u → W.cell? ⟨b, o + (j * 10 + i), none⟩ = some u := fun i u hi hu => hc _ _ ((g i hi).trans hu)
  simp only [← Nat.add_assoc] at q
  exact ⟨⟨q 0 _ (by omega) rfl, q 1 _ (by omega) rfl, q 2 _ (by omega) rfl, q 3 _ (by omega) rfl, q 4 _ (by omega) rfl, q 5 _ (by omega) rfl, q 6 _ (by omega) rfl, q 7 _ (by omega) rfl, q 8 _ (by omega) rfl, q 9 _ (by omega) rfl⟩, h.2 _ (List.getElem_mem hj)⟩
abbrev OwnR (W : World) (base : Nat) (v : Value) (A : List MV) : Prop := W.ownsRow base 29 10 v A.length (A.flatMap mvv)
def MsO (W : World) (base : Nat) (v : Value) (A : List MV) : Prop := OwnR W base v A ∧ ∀ x ∈ A, OwnT W base x.2 x.1.l
theorem MsO.nil (W : World) (base : Nat) : MsO W base (.slice none 0 0) [] := ⟨World.ownsRow_nil _ _ _ _, fun p h => by cases h⟩
theorem MsO.grew {W W' : World} {base : Nat} {v : Value} {A : List MV} (h : MsO W base v A) (g : Grew W W') : MsO W' base v A := ⟨own_grew h.1 g, fun p hp => own_grew (h.2 p hp) g⟩
theorem MsO.msr {W : World} {base : Nat} {v : Value} {A : List MV} (h : MsO W base v A) : MsR W v A := ⟨Sl.of_own h.1, fun x hx => Sl.of_own (h.2 x hx)⟩
theorem info_msgs : (Tryz.prog.info? 29).map (fun i => (i.zero, i.size, i.bytes)) = some (some (.agg zMsg), 10, 112) := by kernel_rfl
theorem mvv_one (p : MV) (h : ∃ a n c, p.2 = .slice a n c) : ∀ u ∈ mvv p, u.oneCell' = true := by
  obtain ⟨a, n, c, e⟩ := h
  have h1 := msgA_one p.1 a n c
  rw [← e] at h1
  intro u hu
  rw [Array.all_eq_true_iff_forall_mem] at h1
  exact h1 u (by unfold mvv at hu; simpa using hu)
theorem wpList_pushM {W : World} {ops : Array Oper} {rest : List Oper} {o : Oper} {a : Act} {Q : Exit → Act → World → Prop} (hgd : o.guard = none) (s x : Operand)
    (ho : o.op = .call { callee := .builtin .append, args := #[s, x], argTypes := #[50, 50] })
    (base : Nat) (v : Value) (A : List MV) (hs : a.eval s = v) (hown : OwnR W base v A) (xv : Value) (hx : a.eval x = xv) (p : MV) (hsl : Sl W xv 1 10 (mvv p)) (hp : ∃ a n c, p.2 = .slice a n c)
    (hlen : A.length + 1 ≤ 1000000000) (hbase : base ≤ W.heap.size)
    (h : ∀ v' w', OwnR w' base v' (A ++ [p]) → Below base W w' → W.grownBy w' v.ownBlock → wpList Tryz.prog ops Q rest (a.put o.dst v') w') : wpList Tryz.prog ops Q (o :: rest) a W := by
  obtain ⟨i0, hi, hz0, hz1, hz2⟩ := info_parts info_msgs
  exact wpList_app hgd s x 50 ho base 29 i0 (.agg zMsg) 10 112 Tryz.underlying50 hi hz0 hz1 hz2 rfl (by decide) v A.length _ hs hown xv 1 (mvv p) hx hsl (mvv_one p hp) (by unfold maxLen; omega) (by omega) hbase
    fun v' w' h1 h2 => h v' w' (by unfold OwnR; rw [List.length_append, List.flatMap_append]; simpa using h1) (grownBy_below h2 hown hbase) h2
/-- a message's row of its own -/
theorem MsO.push {W w' : World} {base : Nat} {v v' : Value} {A : List MV} {p : MV} (h : MsO W base v A) (hp : OwnT W base p.2 p.1.l) (h1 : OwnR w' base v' (A ++ [p])) (h2 : W.grownBy w' v.ownBlock) : MsO w' base v' (A ++ [p]) := by
  refine ⟨h1, fun q hq => ?_⟩
  rcases List.mem_append.1 hq with hq | hq
  · exact own_kept (h.2 q hq) h2 (own_ne2 (h.2 q hq) h.1 (by decide))
  · obtain rfl := List.mem_singleton.1 hq
    exact own_kept hp h2 (own_ne2 hp h.1 (by decide))
section
variable {H : Type} {enc : TypeId × Value → H}
set_option maxRecDepth 100000 in
/-- a slice of messages -/
theorem open_msgs {W : World} {b0 : Nat} {v : Value} {d : DataW H} {p : List MemPlace} (hv : Value.okWide Tryz.prog W .any b0 50 v) (h : DataW.Trod enc Tryz.prog W 0 (fun _ => true) true 50 v d p) :
    ∃ A : List MV, MsR W v A ∧ ∀ x ∈ A, ∀ i, i < 6 → x.1.n i < 18446744073709551616 := by
  obtain ⟨A, h1, h2⟩ := open_rows Tryz.underlying50 (by kernel_rfl) mvv (fun _ => rfl) (fun x => Tx W x.2 x.1.l ∧ ∀ i, i < 6 → x.1.n i < 18446744073709551616) (fun n cs d hl hd => by
    obtain ⟨m, lv, e, hT, -⟩ := trod_msg hl hd
    refine ⟨(m, lv), e, hT, ?_⟩
    refine open_msgN (W := W) (enc := enc) (lv := lv) (d := d.1) (p := d.2) ⟨n, ?_⟩
    have hc : (Value.agg (msgA m lv)).cells.toList = (msgA m lv).toList := by simp [Value.cells]
    rw [hc, ← e]; exact hd) hv h
  exact ⟨A, ⟨h1, fun x hx => (h2 x hx).1⟩, fun x hx => (h2 x hx).2⟩
end
end Go.Proofs.YtbjoohafgkodcaaGreat
namespace Go.Proofs.YtbjoohafgkodcaaGreat
open Go Go.RowKit Go.Shelf

/-- may it be? -/
def okF (ver : Int) (x : MV) : Bool := (chkM x.1 (ofKind x.1.k (rowsIn ver))).1 == 0
/-- what is received of a message -/
def clF (ver : Int) (x : MV) : Msg := cleanM x.1 (ofKind x.1.k (rowsIn ver))
theorem FsO.kept {W W' : World} {base b2 : Nat} {v rv : Value} {A : List FA} {S : List MV} (h : FsO W base v A) (hr : OwnR W b2 rv S) (hg : W.grownBy W' rv.ownBlock) : FsO W' base v A :=
  ⟨own_kept h.1 hg (own_ne2 h.1 hr (by decide)), fun q hq => (h.2 q hq).below hg (row_ne hr (by decide) (h.2 q hq))⟩
theorem wpList_pushFrG {W : World} {ops : Array Oper} {rest : List Oper} {o : Oper} {a : Act} {Q : Exit → Act → World → Prop} (hgd : o.guard = none) (s x : Operand)
    (ho : o.op = .call { callee := .builtin .append, args := #[s, x], argTypes := #[52, 52] })
    (base : Nat) (v : Value) (A : List FA) (hs : a.eval s = v) (hown : FsO W base v A) (xv : Value) (hx : a.eval x = xv) (p : FA) (hsl : Sl W xv 1 2 (fav p)) (hp : PayV W base p.2 p.1.2)
    (hlen : A.length + 1 ≤ 1000000000) (hbase : base ≤ W.heap.size)
    (h : ∀ v' w', FsO w' base v' (A ++ [p]) → Below base W w' → W.grownBy w' v.ownBlock → wpList Tryz.prog ops Q rest (a.put o.dst v') w') : wpList Tryz.prog ops Q (o :: rest) a W := by
  obtain ⟨i0, hi, hz0, hz1, hz2⟩ := info_parts info_frm
  exact wpList_app hgd s x 52 ho base 42 i0 (.agg #[.int .u8 0, .slice none 0 0]) 2 32 Tryz.underlying52 hi hz0 hz1 hz2 rfl (by decide) v A.length _ hs hown.1 xv 1 (fav p) hx hsl (fav_one p hp.bs) (by unfold maxLen; omega) (by omega) hbase
    fun v' w' h1 h2 => h v' w' (hown.push hp h1 h2) (grownBy_below h2 hown.1 hbase) h2
/-- a message's cells, later -/
theorem MAt.grew {W W' : World} {b o : Nat} {x : MV} (h : MAt W b o x) (g : Grew W W') : MAt W' b o x :=
  ⟨below_ext g _ _ h.1, below_ext g _ _ h.2.1, below_ext g _ _ h.2.2.1, below_ext g _ _ h.2.2.2.1, below_ext g _ _ h.2.2.2.2.1, below_ext g _ _ h.2.2.2.2.2.1, below_ext g _ _ h.2.2.2.2.2.2.1, below_ext g _ _ h.2.2.2.2.2.2.2.1, below_ext g _ _ h.2.2.2.2.2.2.2.2.1, below_ext g _ _ h.2.2.2.2.2.2.2.2.2⟩
/-- a feeder's blocks are no row's of messages, nor of texts -/
theorem fd_ne {bF p n base : Nat} {F : Nat → Prop} {W : World} {K : List UInt8} {over : Bool} (h : FdS 86 bF F W p K n over) {e : TypeId} {sz m : Nat} {v : Value} {xs : List Value} (hr : W.ownsRow base e sz v m xs) (h1 : 86 ≠ e) (h2 : e ≠ 5) : ∀ k, F k → ¬ v.ownBlock = some k := by
  obtain ⟨u, k1, k2, k3, k4⟩ := h
  intro k hk e'
  rcases (k4 k).1 hk with rfl | h3
  · exact blk_ne_row k1 hr h1 e'.symm
  · exact own_ne2 hr k2 h2 k e' h3.symm
/-- what the rounds over the pieces leave -/
structure MlI (ver : Int) (bF : Nat) (wC : World) (p : Nat) (S : List MV) (Bq : List UInt8) (got : Value) (wr : World) (G : List MV) (K : List UInt8) (n told : Nat) (F : Nat → Prop) : Prop where
  fd : FdS 86 bF F wr p K n false
  new : ∀ k, F k → k = p ∨ wC.heap.size ≤ k
  inv : fInv Bq K n told
  fr : Fr (· = p) wC wr
  row : MsO wr wC.heap.size got G
  is : G.map (·.1) = (S.take told).map (clF ver)
  le : told ≤ S.length
/-- what the rounds over the frames that were found leave -/
structure MlJ (ver : Int) (bF : Nat) (wC : World) (p : Nat) (S : List MV) (got : Value) (wr : World) (G : List MV) (K : List UInt8) (n told : Nat) (F : Nat → Prop) (b : Nat) (v : Value) (qs : List FV) (k : Nat) : Prop where
  fd : FdS 86 bF F wr p K n false
  new : ∀ k, F k → k = p ∨ wC.heap.size ≤ k
  fr : Fr (· = p) wC wr
  row : MsO wr wC.heap.size got G
  fo : FoundsV wr b v qs
  is : G.map (·.1) = (S.take (told + k)).map (clF ver)
theorem MlI.feed {ver : Int} {bF : Nat} {wC : World} {p : Nat} {S : List MV} {Bq : List UInt8} {got : Value} {wr W1 : World} {G : List MV} {K K' : List UInt8} {n n' told : Nat} {F : Nat → Prop} {v : Value} {fs : List Fnd}
    (h : MlI ver bF wC p S Bq got wr G K n told F) (hq : FdQ 86 bF F p K' n' false v fs wr W1) : ∃ F' b qs, qs.map (·.1) = fs ∧ MlJ ver bF wC p S got W1 G K' n' told F' b v qs 0 := by
  obtain ⟨F', b, d, f, s, hb, ⟨qs, hqs, r⟩, q⟩ := hq
  refine ⟨F', b, qs, hqs, d, fun k hk => ?_, h.fr.trans' f (fun i hi hF => by rcases h.new i hF with e | e; exact e; omega), ⟨own_fr h.row.1 f (fun g hg hF => fd_ne h.fd h.row.1 (by decide) (by decide) g hF hg), fun x hx => own_fr (h.row.2 x hx) f (fun g hg hF => fd_ne h.fd (h.row.2 x hx) (by decide) (by decide) g hF hg)⟩, r, h.is⟩
  rcases s k hk with h1 | h1
  · exact h.new k h1
  · have := h.fr.size; right; omega
theorem MlJ.grew {ver : Int} {bF : Nat} {wC : World} {p : Nat} {S : List MV} {got : Value} {wr W1 : World} {G : List MV} {K : List UInt8} {n told : Nat} {F : Nat → Prop} {b : Nat} {v : Value} {qs : List FV} {k : Nat}
    (h : MlJ ver bF wC p S got wr G K n told F b v qs k) (g : Grew wr W1) : MlJ ver bF wC p S got W1 G K n told F b v qs k :=
  ⟨h.fd.grew g, h.new, h.fr.trans (Fr.of_grew g), h.row.grew g, ⟨own_grew h.fo.1 g, fun q hq => (h.fo.2 q hq).grew g⟩, h.is⟩
theorem MlJ.push {ver : Int} {bF : Nat} {wC : World} {p : Nat} {S : List MV} {got got' : Value} {wr W1 : World} {G : List MV} {K : List UInt8} {n told : Nat} {F : Nat → Prop} {b : Nat} {v : Value} {qs : List FV} {k : Nat} {lv : Value}
    (h : MlJ ver bF wC p S got wr G K n told F b v qs k) (hk : told + k < S.length) (hl : OwnT wr wC.heap.size lv (clF ver S[told + k]).l) (hr : OwnR W1 wC.heap.size got' (G ++ [(clF ver S[told + k], lv)])) (hg : wr.grownBy W1 got.ownBlock) :
    MlJ ver bF wC p S got' W1 (G ++ [(clF ver S[told + k], lv)]) K n told F b v qs (k + 1) := by
  refine ⟨h.fd.fr (Fr.of_grown hg fun k e => e) (fun k hk e => fd_ne h.fd h.row.1 (by decide) (by decide) k hk e), h.new, h.fr.trans' (Fr.of_grown hg fun k e => e) (fun i hi e => by have := (own_lt h.row.1 i e).1; omega), h.row.push hl hr hg,
    ⟨own_kept h.fo.1 hg (own_ne2 h.fo.1 h.row.1 (by decide)), fun q hq => (h.fo.2 q hq).below hg (row_ne h.row.1 (by decide) (h.fo.2 q hq))⟩, ?_⟩
  rw [List.map_append, h.is, show told + (k + 1) = told + k + 1 by omega, List.take_succ_eq_append_getElem hk, List.map_append]
  rfl
/-- where a decoded message lies -/
def DcR (C : Msg) (base : Nat) (w0 : World) (x20 x21 : Value) (wx : World) : Prop := ∃ (a : Option Addr) (c b1 b2 : Nat), x20 = .pointer (some ⟨b1, 0, none⟩) ∧ x21 = .pointer (some ⟨b2, 0, none⟩) ∧
  Blk wx b1 29 (msgA C (.slice a C.l.length c)) ∧ Blk wx b2 32 #[.int .i64 0, .int .i64 0] ∧ OwnT wx base (.slice a C.l.length c) C.l ∧ Grew w0 wx
theorem flat_oneM {α β : Type} (f : α → β) (l : List α) : (l.flatMap fun z => [f z]) = l.map f := by
  induction l with
  | nil => rfl
  | cons x l ih => simp [ih]
section
variable {H : Type} {enc : TypeId × Value → H}
open Go.WideShapes Go.ChangeShapes Go.ChangeAt Go.Deep
set_option maxRecDepth 100000 in
theorem open_intsM {W : World} {b0 : Nat} {v : Value} {d : DataW H} {p : List MemPlace} (hv : Value.okWide Tryz.prog W .any b0 51 v) (h : DataW.Trod enc Tryz.prog W 0 (fun _ => true) true 51 v d p) :
    ∃ s : List Int, Sl W v s.length 1 (iiv s) ∧ ∀ z ∈ s, -9223372036854775808 ≤ z ∧ z ≤ 9223372036854775807 := by
  obtain ⟨s, h1, h2⟩ := open_rows Tryz.underlying51 (by kernel_rfl) (fun z : Int => [Value.int .i64 z]) (fun _ => rfl) (fun z => -9223372036854775808 ≤ z ∧ z ≤ 9223372036854775807) (fun n cs d hl hd => by
    match cs, hl with
    | [c], _ =>
      obtain ⟨z, rfl, b1, b2⟩ := trod_i64 hd
      exact ⟨z, rfl, b1, b2⟩) hv h
  rw [flat_oneM] at h1
  exact ⟨s, h1, h2⟩
end
end Go.Proofs.YtbjoohafgkodcaaGreat
