/- Package rescriptref03: One, First, Check: contracts. ; Package utf and rescriptref03: First, Check: contracts. -/
import Derived.Test.YtbjoohafgkodcaaGreatRows
import Derived.Test.YtbjoohafgkodcaaGreatUtf
import Derived.Lib.IndexLaws
namespace Go.Proofs.YtbjoohafgkodcaaGreat
open Go Go.RowKit Go.Shelf

def hasV (s p : ByteArray) : Bool := decide (p.size ≤ s.size) && ((s.extract 0 p.size).toList == p.toList)
set_option maxHeartbeats 1000000 in
theorem shas_any (s p : ByteArray) (w : World) : Calls Tryz.prog 161 #[.string s, .string p] w fun e w' => e = .returned (.bool (hasV s p)) ∧ w = w' := by
  by_cases h : p.size ≤ s.size
  · have e : hasV s p = ((s.extract 0 p.size).toList == p.toList) := by simp [hasV, h]
    have E := Lib.hid e
    clear e
    go_enter Tryz.func161, Tryz.ntmps161
    go_wp2
    go_ret
    exact ⟨by rw [E.out]; rfl, rfl⟩
  · have e : hasV s p = false := by simp [hasV, h]
    have E := Lib.hid e
    clear e
    go_enter Tryz.func161, Tryz.ntmps161
    go_wp2
    go_ret
    exact ⟨by rw [E.out]; rfl, rfl⟩
theorem has_any (s p : ByteArray) (w : World) : Calls Tryz.prog 146 #[.string s, .string p] w fun e w' => e = .returned (.bool (hasV s p)) ∧ w = w' := by
  go_enter Tryz.func146, Tryz.ntmps146
  go_wp2_with fail
  refine (shas_any _ _ _).mono ?_
  rintro e w1 ⟨rfl, rfl⟩
  go_wp2
  go_ret
  exact ⟨rfl, rfl⟩
theorem bAt_get (s : ByteArray) (i : Nat) (hi : i < s.size) : s.data.toList[i]'hi = s.get! i := by
  have : s.get! i = s.data[i]'hi := by
    show (s.data[i]! : UInt8) = _
    rw [getElem!_pos s.data i hi]
  rw [this]; rfl
theorem take3 {α : Type} (l : List α) (i : Nat) (h : i + 3 ≤ l.length) : (l.drop i).take 3 = [l[i], l[i + 1], l[i + 2]] := by
  rw [List.drop_eq_getElem_cons (by omega), List.drop_eq_getElem_cons (by omega), List.drop_eq_getElem_cons (by omega)]
  rfl
theorem hasV_wrong (s : ByteArray) (i : Nat) : hasV (s.extract i s.size) ⟨#[239, 191, 189]⟩ = decide (i + 3 ≤ s.size ∧ bAt s i = 239 ∧ bAt s (i + 1) = 191 ∧ bAt s (i + 2) = 189) := by
  have hz : (s.extract i s.size).size = s.size - i := by simp
  have h3 : (ByteArray.mk #[239, 191, 189]).size = 3 := rfl
  unfold hasV
  rw [h3, hz]
  by_cases h : i + 3 ≤ s.size
  · have hl : i + 3 ≤ s.data.toList.length := by simpa using h
    have e : ((s.extract i s.size).extract 0 3).toList = [s.get! i, s.get! (i + 1), s.get! (i + 2)] := by
      rw [ByteArray.toList_eq, ← bAt_get s i (by omega), ← bAt_get s (i + 1) (by omega), ← bAt_get s (i + 2) (by omega), ← take3 _ i hl]
      simp only [ByteArray.data_extract, Array.toList_extract, List.extract, List.drop_zero, List.take_take]
      congr 1
      omega
    rw [e, ByteArray.toList_eq]
    have u : ∀ (x : UInt8) (n : Nat) (hn : n < 256), (x = UInt8.ofNat n) ↔ x.toNat = n := fun x n hn => by
      rw [← UInt8.toNat_inj, UInt8.toNat_ofNat']
      rw [Nat.mod_eq_of_lt (by simpa using hn)]
    have q := u (s.get! i) 239 (by omega); have q1 := u (s.get! (i + 1)) 191 (by omega); have q2 := u (s.get! (i + 2)) 189 (by omega)
    rw [Bool.eq_iff_iff]
    simp only [Bool.and_eq_true, decide_eq_true_eq, beq_iff_eq, List.cons.injEq, and_true]
    unfold bAt
    constructor
    · rintro ⟨_, a, b, c⟩; exact ⟨h, q.1 a, q1.1 b, q2.1 c⟩
    · rintro ⟨_, a, b, c⟩; exact ⟨by omega, q.2 a, q1.2 b, q2.2 c⟩
  · rw [decide_eq_false (by omega), decide_eq_false (by omega)]; rfl
theorem r1_wrong (s : ByteArray) (i : Nat) (hi : i < s.size) (h : (Utf8.decode s i).1 = 65533) : r1 s i = if hasV (s.extract i s.size) ⟨#[239, 191, 189]⟩ = true then 3 else 0 := by
  have := wrong_is s i hi h
  unfold r1
  rw [if_pos h, hasV_wrong]
  by_cases c : (Utf8.decode s i).2 = 3
  · rw [if_pos c, if_pos (decide_eq_true (this.1 c))]
  · rw [if_neg c, if_neg (by simpa using fun a b c' d => c (this.2 ⟨a, b, c', d⟩))]

set_option maxHeartbeats 1000000 in
theorem taken_any (s : ByteArray) (i : Nat) (hi : i < s.size) (_hs : s.size ≤ 9223372036854775807) (w : World) :
    Calls Tryz.prog 137 #[.string s, .int .i64 i, .int .i32 (Utf8.decode s i).1] w fun e w' => e = .returned (.int .i64 (r1 s i)) ∧ w = w' := by
  by_cases h : (Utf8.decode s i).1 = 65533
  · have hr := r1_wrong s i hi h
    rw [h]
    have HR := Lib.hid hr
    clear hr h
    have z0 : (0 : Int) ≤ (i : Int) := by omega
    have z1 : (i : Int) ≤ (s.size : Int) := by omega
    have z2 : ((i : Int)).toNat = i := by omega
    go_enter Tryz.func137, Tryz.ntmps137
    go_wp2_with fail
    refine (has_any _ _ _).mono ?_
    rintro e w1 ⟨rfl, rfl⟩
    cases hh : hasV (s.extract i s.size) ⟨#[239, 191, 189]⟩ with
    | true =>
      have HH := Lib.hid hh
      clear hh
      go_wp2
      go_ret
      exact ⟨ret_int (by rw [HR.out, HH.out]; rfl), rfl⟩
    | false =>
      have HH := Lib.hid hh
      clear hh
      go_wp2
      go_ret
      exact ⟨ret_int (by rw [HR.out, HH.out]; rfl), rfl⟩
  · have hr : r1 s i = (Utf8.encode ((Utf8.decode s i).1 : Nat)).size := by
      rw [decode_size s i h]; unfold r1; rw [if_neg h]
    have HR := Lib.hid hr
    have hne : (((Utf8.decode s i).1 : Int) != 65533) = true := by simp; omega
    clear hr h
    generalize (Utf8.decode s i).1 = c at hne HR ⊢
    go_enter Tryz.func137, Tryz.ntmps137
    go_wp2
    go_ret
    exact ⟨ret_int (by rw [HR.out]), rfl⟩
set_option maxHeartbeats 1000000 in
theorem first_any (s : ByteArray) (hs : s.size ≤ 9223372036854775807) (w : World) :
    Calls Tryz.prog 126 #[.string s] w fun e w' => e = .returned (.int .i64 (firstV s)) ∧ Grew w w' := by
  go_enter Tryz.func126, Tryz.ntmps126
  go_wp2
  go_loopw [3] (fun _ wr => ∃ (pos fuel : Nat), wr.heap[w.heap.size]? = some (.stringIter s pos) ∧ Grew w wr ∧ pos ≤ s.size ∧ s.size < pos + fuel ∧ RowKit.Hid (first? s = firstF s fuel pos)) (fun _ wr => s.size - wr.iterPos w.heap.size)
  case atStart =>
    refine ⟨0, s.size + 1, ?_, grew_alloc _ _, by omega, by omega, Lib.hid rfl⟩
    exact World.iter_heap w s 0
  case round =>
    obtain ⟨pos, fuel, hit, hg, hle, hfu, hF⟩ := hrel
    by_cases hp : pos < s.size
    · have hnx : ∀ ty, (Instr.next (.pointer (some ⟨w.heap.size, 0, none⟩)) true ty).run Tryz.prog wr = _ := fun ty => Lib.run_next_any_at wr w.heap.size s pos ty hit hp
      have hit2 := Lib.iterAt_heap wr w.heap.size s pos (pos + (Utf8.decode s pos).2) hit
      have hg2 : Grew w (wr.iterAt w.heap.size s (pos + (Utf8.decode s pos).2)) := Lib.below_iterAt hg (Nat.le_refl _) s _
      have HT := Lib.hid (fun W => taken_any s pos hp hs W)
      have HI2 := Lib.hid hit2
      have hwd := decode_width s pos
      have HW := Lib.hid hwd
      obtain ⟨f, rfl⟩ : ∃ f, fuel = f + 1 := ⟨fuel - 1, by omega⟩
      have hin := r1_in s pos hp
      clear hit2 hwd
      go_wp2_with fail
      refine (HT.out _).mono ?_
      rintro e w1 ⟨rfl, rfl⟩
      by_cases h0 : r1 s pos = 0
      · have hv : firstV s = pos := firstV_of s pos (by rw [hF.out, firstF_hit s hp h0])
        have HV := Lib.hid hv
        have z0 : ((r1 s pos : Int) == 0) = true := by simp; omega
        clear h0 hv hin
        go_wp2
        go_ret
        exact ⟨ret_int HV.out.symm, hg2⟩
      · have hw1 := r1_width s pos h0
        have hst := firstF_step s (f := f) hp h0
        have HST := Lib.hid hst
        have HW1 := Lib.hid hw1
        have z0 : ((r1 s pos : Int) == 0) = false := by simp; omega
        have HIN := Lib.hid hin
        clear h0 hw1 hst hin
        go_wp2
        go_roundw
        case rel =>
          refine ⟨pos + (Utf8.decode s pos).2, f, HI2.out, hg2, by have := HW1.out; have := HIN.out; omega, by have := HW.out; omega, Lib.hid ?_⟩
          rw [hF.out, HST.out, HW1.out]
        case measure =>
          simp only [World.iterPos, HI2.out, hit]
          have := HW.out; omega
    · have hnx : ∀ ty, (Instr.next (.pointer (some ⟨w.heap.size, 0, none⟩)) true ty).run Tryz.prog wr = _ := fun ty => Lib.run_next_end_at wr w.heap.size s pos ty hit hp
      have hv : firstV s = -1 := firstV_none s (by rw [hF.out, firstF_end s hp])
      have HV := Lib.hid hv
      clear hv
      go_wp2
      go_ret
      exact ⟨ret_int HV.out.symm, hg⟩
theorem chk_long (s : ByteArray) (most : Int) (h : most < s.size) : chkV s most = 2 := by unfold chkV; rw [if_pos h]
theorem chk_utf (s : ByteArray) (most : Int) (h : ¬ most < s.size) (h1 : 0 ≤ firstV s) : chkV s most = 9 := by unfold chkV; rw [if_neg h, if_pos h1]
theorem chk_ok (s : ByteArray) (most : Int) (h : ¬ most < s.size) (h1 : ¬ 0 ≤ firstV s) : chkV s most = 0 := by unfold chkV; rw [if_neg h, if_neg h1]
set_option maxHeartbeats 1000000 in
theorem ucheck_any (s : ByteArray) (most : Int) (hs : s.size ≤ 9223372036854775807) (w : World) :
    Calls Tryz.prog 104 #[.string s, .int .i64 most] w fun e w' => e = .returned (.int .i64 (chkV s most)) ∧ Grew w w' := by
  by_cases h : most < s.size
  · have e := chk_long s most h
    have E := Lib.hid e
    clear e
    go_enter Tryz.func104, Tryz.ntmps104
    go_wp2
    go_ret
    exact ⟨ret_int (by rw [E.out]; rfl), Below.refl _ _⟩
  · by_cases h1 : 0 ≤ firstV s
    all_goals (
      first
      | have e := chk_utf s most h h1
      | have e := chk_ok s most h h1)
    all_goals (
      have E := Lib.hid e
      have K := Lib.hid (fun W => first_any s hs W)
      generalize firstV s = fv at h1 K
      clear e
      go_enter Tryz.func104, Tryz.ntmps104
      go_wp2_with fail
      refine (K.out _).mono ?_
      rintro e w1 ⟨rfl, g1⟩
      go_wp2
      go_ret
      exact ⟨ret_int (by rw [E.out]; rfl), g1⟩)
end Go.Proofs.YtbjoohafgkodcaaGreat
namespace Go.Proofs.YtbjoohafgkodcaaGreat
open Go Go.RowKit Go.Shelf

theorem r1_eq (s : ByteArray) (i : Nat) : r1 s i =
    if bAt s i < 128 then 1
    else if bAt s i / 32 = 6 ∧ contAt s (i + 1) = true then (if 128 ≤ bAt s i % 32 * 64 + bAt s (i + 1) % 64 then 2 else 0)
    else if bAt s i / 16 = 14 ∧ contAt s (i + 1) = true ∧ contAt s (i + 2) = true then
      (if 2048 ≤ bAt s i % 16 * 4096 + bAt s (i + 1) % 64 * 64 + bAt s (i + 2) % 64 ∧ ¬ (55296 ≤ bAt s i % 16 * 4096 + bAt s (i + 1) % 64 * 64 + bAt s (i + 2) % 64 ∧ bAt s i % 16 * 4096 + bAt s (i + 1) % 64 * 64 + bAt s (i + 2) % 64 < 57344) then 3 else 0)
    else if bAt s i / 8 = 30 ∧ contAt s (i + 1) = true ∧ contAt s (i + 2) = true ∧ contAt s (i + 3) = true then
      (if 65536 ≤ bAt s i % 8 * 262144 + bAt s (i + 1) % 64 * 4096 + bAt s (i + 2) % 64 * 64 + bAt s (i + 3) % 64 ∧ bAt s i % 8 * 262144 + bAt s (i + 1) % 64 * 4096 + bAt s (i + 2) % 64 * 64 + bAt s (i + 3) % 64 ≤ 1114111 then 4 else 0)
    else 0 := by
  have h0 := bAt_lt s i; have h1 := bAt_lt s (i + 1); have h2 := bAt_lt s (i + 2); have h3 := bAt_lt s (i + 3)
  unfold r1
  rw [decode_eq]
  repeat' split
  all_goals first | rfl | (simp only at *; omega) | simp_all
/-- the number so far, and the bytes ahead of j go on -/
def accN (s : ByteArray) (i n0 : Nat) : Nat → Nat
  | 0 => n0
  | j + 1 => accN s i n0 j * 64 + bAt s (i + j + 1) % 64
def goOn (s : ByteArray) (i : Nat) : Nat → Bool
  | 0 => true
  | j + 1 => goOn s i j && contAt s (i + j + 1)
/-- how many others, the first one's bits, the least number -/
def oneK (b : Nat) : Nat := if b / 32 = 6 then 1 else if b / 16 = 14 then 2 else 3
def oneN (b : Nat) : Nat := if b / 32 = 6 then b % 32 else if b / 16 = 14 then b % 16 else b % 8
def oneL (b : Nat) : Nat := if b / 32 = 6 then 128 else if b / 16 = 14 then 2048 else 65536
def runeB (n : Nat) : Bool := decide (n ≤ 1114111) && (decide (n < 55296) || decide (57343 < n))
theorem goOn_false (s : ByteArray) (i : Nat) : ∀ (k j : Nat), goOn s i j = false → j ≤ k → goOn s i k = false
  | 0, j, h, hj => by obtain rfl : j = 0 := by omega
                      exact h
  | k + 1, j, h, hj => by
    by_cases e : j = k + 1
    · subst e; exact h
    · rw [goOn, goOn_false s i k j h (by omega)]; rfl
theorem r1_bad (s : ByteArray) (i : Nat) (h1 : 128 ≤ bAt s i) (h2 : bAt s i < 192 ∨ 248 ≤ bAt s i) : r1 s i = 0 := by
  rw [r1_eq]
  rw [if_neg (by omega), if_neg (by omega), if_neg (by omega), if_neg (by omega)]
theorem r1_one (s : ByteArray) (i : Nat) (h1 : 192 ≤ bAt s i) (h2 : bAt s i < 248) :
    r1 s i = if goOn s i (oneK (bAt s i)) = true ∧ oneL (bAt s i) ≤ accN s i (oneN (bAt s i)) (oneK (bAt s i)) ∧ runeB (accN s i (oneN (bAt s i)) (oneK (bAt s i))) = true then oneK (bAt s i) + 1 else 0 := by
  have g1 := bAt_lt s (i + 1); have g2 := bAt_lt s (i + 2); have g3 := bAt_lt s (i + 3)
  rw [r1_eq, if_neg (by omega)]
  unfold oneK oneL oneN
  by_cases c1 : bAt s i / 32 = 6
  · simp only [c1, if_true, true_and, goOn, accN, Bool.true_and, Nat.add_zero]
    by_cases e1 : contAt s (i + 1) = true
    · rw [if_pos e1]
      by_cases d : 128 ≤ bAt s i % 32 * 64 + bAt s (i + 1) % 64
      · rw [if_pos d, if_pos ⟨e1, d, by simp [runeB]; omega⟩]
      · rw [if_neg d, if_neg (fun h => d h.2.1)]
    · rw [if_neg e1, if_neg (by omega), if_neg (by omega), if_neg (fun h => e1 h.1)]
  rw [if_neg (fun h => c1 h.1)]
  by_cases c2 : bAt s i / 16 = 14
  · simp only [c1, c2, if_true, if_false, true_and, goOn, accN, Bool.true_and, Nat.add_zero, Bool.and_eq_true]
    have en : (bAt s i % 16 * 64 + bAt s (i + 1) % 64) * 64 + bAt s (i + 1 + 1) % 64 = bAt s i % 16 * 4096 + bAt s (i + 1) % 64 * 64 + bAt s (i + 2) % 64 := by
      rw [show i + 1 + 1 = i + 2 from rfl]; omega
    rw [en]
    obtain ⟨v, hv0, hv⟩ : ∃ v, v = bAt s i % 16 * 4096 + bAt s (i + 1) % 64 * 64 + bAt s (i + 2) % 64 ∧ v < 65536 := ⟨_, rfl, by omega⟩
    rw [← hv0]
    by_cases e1 : contAt s (i + 1) = true ∧ contAt s (i + 2) = true
    · rw [if_pos e1]
      by_cases d : 2048 ≤ v ∧ ¬ (55296 ≤ v ∧ v < 57344)
      · rw [if_pos d, if_pos ⟨e1, d.1, by simp [runeB]; omega⟩]
      · rw [if_neg d, if_neg (fun h => d ⟨h.2.1, by have := h.2.2; simp [runeB] at this; omega⟩)]
    · rw [if_neg e1, if_neg (by omega), if_neg (fun h => e1 h.1)]
  rw [if_neg (fun h => c2 h.1)]
  have c3 : bAt s i / 8 = 30 := by omega
  simp only [c1, c2, c3, if_false, true_and, goOn, accN, Bool.true_and, Nat.add_zero, Bool.and_eq_true]
  have en : ((bAt s i % 8 * 64 + bAt s (i + 1) % 64) * 64 + bAt s (i + 1 + 1) % 64) * 64 + bAt s (i + 2 + 1) % 64 = bAt s i % 8 * 262144 + bAt s (i + 1) % 64 * 4096 + bAt s (i + 2) % 64 * 64 + bAt s (i + 3) % 64 := by
    rw [show i + 1 + 1 = i + 2 from rfl, show i + 2 + 1 = i + 3 from rfl]; omega
  rw [en]
  generalize bAt s i % 8 * 262144 + bAt s (i + 1) % 64 * 4096 + bAt s (i + 2) % 64 * 64 + bAt s (i + 3) % 64 = v
  by_cases e1 : contAt s (i + 1) = true ∧ contAt s (i + 2) = true ∧ contAt s (i + 3) = true
  · rw [if_pos e1]
    by_cases d : 65536 ≤ v ∧ v ≤ 1114111
    · rw [if_pos d, if_pos ⟨⟨⟨e1.1, e1.2.1⟩, e1.2.2⟩, d.1, by simp [runeB]; omega⟩]
    · rw [if_neg d, if_neg (fun h => d ⟨h.2.1, by have := h.2.2; simp [runeB] at this; omega⟩)]
  · rw [if_neg e1, if_neg (fun h => e1 ⟨h.1.1.1, h.1.1.2, h.1.2⟩)]
theorem accN_lt (s : ByteArray) (i n0 : Nat) (h : n0 < 32) : ∀ j, j ≤ 3 → accN s i n0 j < 8388608
  | 0, _ => by simp [accN]; omega
  | 1, _ => by simp [accN]; omega
  | 2, _ => by simp [accN]; omega
  | 3, _ => by simp [accN]; omega
  | j + 4, h => by omega

set_option maxHeartbeats 1000000 in
theorem rune_any (n : Nat) (hn : n < 8388608) (w : World) : Calls Tryz.prog 134 #[.int .i32 n] w fun e w' => e = .returned (.bool (runeB n)) ∧ w = w' := by
  have z0 : (0 : Int) ≤ (n : Int) := by omega
  by_cases h1 : n ≤ 1114111
  · have z1 : (n : Int) ≤ 1114111 := by omega
    by_cases h2 : n < 55296
    · have z2 : (n : Int) < 55296 := by omega
      have e : runeB n = true := by simp [runeB, h1, h2]
      have E := Lib.hid e
      clear e h1 h2
      go_enter Tryz.func134, Tryz.ntmps134
      go_wp2
      go_ret
      exact ⟨by rw [E.out]; rfl, rfl⟩
    · have z2 : ¬ (n : Int) < 55296 := by omega
      by_cases h3 : 57343 < n
      · have z3 : (57343 : Int) < (n : Int) := by omega
        have e : runeB n = true := by simp [runeB, h1, h3]
        have E := Lib.hid e
        clear e h1 h2 h3
        go_enter Tryz.func134, Tryz.ntmps134
        go_wp2
        go_ret
        exact ⟨by rw [E.out]; rfl, rfl⟩
      · have z3 : ¬ (57343 : Int) < (n : Int) := by omega
        have e : runeB n = false := by simp [runeB]; omega
        have E := Lib.hid e
        clear e h1 h2 h3
        go_enter Tryz.func134, Tryz.ntmps134
        go_wp2
        go_ret
        exact ⟨by rw [E.out]; rfl, rfl⟩
  · have z1 : ¬ (n : Int) ≤ 1114111 := by omega
    have e : runeB n = false := by simp [runeB]; omega
    have E := Lib.hid e
    clear e h1
    go_enter Tryz.func134, Tryz.ntmps134
    go_wp2
    go_ret
    exact ⟨by rw [E.out]; rfl, rfl⟩
/-- what One returns: how many bytes, and some number -/
def OneP (s : ByteArray) (i : Nat) (w : World) (e : Ending) (w' : World) : Prop := (∃ n : Int, e = .returned (.tuple #[.int .i64 (r1 s i : Nat), .int .i32 n])) ∧ w = w'
theorem oneP_mk {s : ByteArray} {i : Nat} {w : World} {a n : Int} (h : (r1 s i : Int) = a) : OneP s i w (.returned (.tuple #[.int .i64 a, .int .i32 n])) w := ⟨⟨n, by rw [h]⟩, rfl⟩
set_option maxRecDepth 100000 in
set_option maxHeartbeats 2000000 in
theorem one_any (s : ByteArray) (i : Nat) (hi : i < s.size) (hs : s.size ≤ 9223372036854775807) (w : World) :
    Calls Tryz.prog 121 #[.string s, .int .i64 i] w (OneP s i w) := by
  have hb : bAt s i = s[i].toNat := by unfold bAt; rw [← bAt_get s i hi]; rfl
  have hlt := bAt_lt s i
  have z0 : (0 : Int) ≤ (i : Int) := by omega
  have z1 : (i : Int) < (s.size : Int) := by omega
  obtain ⟨b, hb0⟩ : ∃ b, b = bAt s i := ⟨_, rfl⟩
  have hbs : s[i].toNat = b := by rw [hb0, hb]
  have hix0 : ∀ W : World, (Instr.index 9 (.string s) (.int .i64 (i : Int))).run Tryz.prog W = .ok (.int .u8 (b : Int)) W := fun W => by
    rw [run_index_string (P := Tryz.prog) W 9 s .i64 _ Tryz.underlying9, dif_pos (by omega)]
    simp only [Int.toNat_natCast, hbs]
  clear hbs
  have hbl : (b : Int) ≤ 255 := by omega
  have hb0' : (0 : Int) ≤ (b : Int) := by omega
  by_cases c0 : b < 128
  · have e : r1 s i = 1 := by rw [r1_eq, ← hb0, if_pos c0]
    have E := Lib.hid e
    have q0 : (b : Int) < 128 := by omega
    clear e hb hb0 hlt c0
    go_enter Tryz.func121, Tryz.ntmps121
    go_wp2
    go_ret2
    exact oneP_mk (by rw [E.out]; rfl)
  by_cases c1 : b < 192 ∨ 248 ≤ b
  · have e : r1 s i = 0 := r1_bad s i (by omega) (by omega)
    have E := Lib.hid e
    clear e hb hb0
    rcases c1 with c1 | c1
    all_goals (
      go_enter Tryz.func121, Tryz.ntmps121
      go_wp2
      go_ret2
      exact oneP_mk (by rw [E.out]; rfl))
  have c2 : 192 ≤ b := by omega
  have c3 : b < 248 := by omega
  have e1 := r1_one s i (by omega) (by omega)
  rw [← hb0] at e1
  have hkl : oneK b ≤ 3 ∧ 1 ≤ oneK b := by unfold oneK; (repeat' split) <;> omega
  have hnl : oneN b < 32 := by unfold oneN; (repeat' split) <;> omega
  have E1 := Lib.hid e1
  -- the three kinds
  have hcase : (b < 224 ∧ oneK b = 1 ∧ oneN b = b - 192 ∧ oneL b = 128) ∨ (¬ b < 224 ∧ b < 240 ∧ oneK b = 2 ∧ oneN b = b - 224 ∧ oneL b = 2048) ∨ (¬ b < 240 ∧ oneK b = 3 ∧ oneN b = b - 240 ∧ oneL b = 65536) := by
    unfold oneK oneN oneL
    by_cases q1 : b / 32 = 6
    · left; simp only [q1, if_true, true_and, and_true]; omega
    by_cases q2 : b / 16 = 14
    · right; left; simp only [q2, if_true, if_neg q1, true_and, and_true]; omega
    · right; right; simp only [if_neg q1, if_neg q2, true_and, and_true]; omega
  generalize oneK b = K at E1 hkl hcase
  generalize oneN b = n0 at E1 hnl hcase
  generalize oneL b = L at E1 hcase
  have hac := accN_lt s i n0 hnl
  have HAC := Lib.hid hac
  have HNL := Lib.hid hnl
  clear e1 hb hb0 hlt hac c0 c1
  by_cases hsh : s.size - i ≤ K
  · have e : r1 s i = 0 := by
      rw [E1.out, if_neg]
      rintro ⟨h1, -, -⟩
      have : ∀ j, goOn s i j = true → 0 < j → i + j < s.size := fun j h h0 => by
        cases j with
        | zero => omega
        | succ j => rw [goOn, Bool.and_eq_true] at h; have := h.2; unfold contAt at this; simp at this; omega
      have := this K h1 (by omega)
      omega
    have E := Lib.hid e
    have hsh' : ((s.size : Int) - (i : Int)) ≤ (K : Int) := by omega
    clear e hsh
    rcases hcase with ⟨q1, rfl, rfl, rfl⟩ | ⟨q1, q2, rfl, rfl, rfl⟩ | ⟨q1, rfl, rfl, rfl⟩
    all_goals (
      go_enter Tryz.func121, Tryz.ntmps121
      go_wp2
      go_ret2
      exact oneP_mk (by rw [E.out]; rfl))
  have hsh' : ¬ ((s.size : Int) - (i : Int)) ≤ (K : Int) := by omega
  have hq : ((b : Int) - 192 = (n0 : Int) ∧ b < 224) ∨ ((b : Int) - 224 = (n0 : Int) ∧ ¬ b < 224) ∨ ((b : Int) - 240 = (n0 : Int) ∧ ¬ b < 240) := by omega
  rcases hcase with ⟨q1, rfl, q3, rfl⟩ | ⟨q1, q2, rfl, q3, rfl⟩ | ⟨q1, rfl, q3, rfl⟩
  · have hq1 : (b : Int) - 192 = (n0 : Int) := by omega
    clear hq q3
    have hz : (i : Int) + 1 < (s.size : Int) := by omega
    have hsh2 : i + 1 < s.size := by omega
    go_enter Tryz.func121, Tryz.ntmps121
    go_wp2
    go_loop [8, 10] (fun nv iv => ∃ j : Nat, j ≤ 1 ∧ iv = .int .i64 ((j : Int) + 1) ∧ nv = .int .i32 (accN s i n0 j : Nat) ∧ RowKit.Hid (goOn s i j = true)) (fun _ iv => 1 + 1 - (intOf iv).toNat)
    case atStart => exact ⟨0, by omega, rfl, rfl, Lib.hid rfl⟩
    case round =>
      obtain ⟨j, hj, rfl, rfl, hgo⟩ := hrel
      have hac := HAC.out j (by omega)
      by_cases hlt : j < 1
      · have hjs : i + j + 1 < s.size := by omega
        have hbj : s[i + j + 1].toNat = bAt s (i + j + 1) := by unfold bAt; rw [← bAt_get s (i + j + 1) hjs]; rfl
        have hl8 := bAt_lt s (i + j + 1)
        have hidx : ((i : Int) + ((j : Int) + 1)) = ((i + j + 1 : Nat) : Int) := by omega
        have hsn : goOn s i (j + 1) = (goOn s i j && contAt s (i + j + 1)) := rfl
        have hac2 : accN s i n0 (j + 1) = accN s i n0 j * 64 + bAt s (i + j + 1) % 64 := rfl
        have hidx2 : (s.get! (i + j + 1)).toNat = bAt s (i + j + 1) := rfl
        generalize bAt s (i + j + 1) = d at hbj hl8 hac2 hidx2
        have hct : contAt s (i + j + 1) = decide (128 ≤ d ∧ d < 192) := by
          unfold contAt; unfold bAt; rw [hidx2, decide_eq_true hjs, Bool.true_and, Bool.eq_iff_iff]; simp; omega
        have hdl : (d : Int) ≤ 255 := by omega
        have hd0 : (0 : Int) ≤ (d : Int) := by omega
        generalize accN s i n0 j = A at hac hac2 ⊢
        have hA0 : (0 : Int) ≤ (A : Int) := by omega
        have hA1 : (A : Int) < 8388608 := by omega
        have HSN := Lib.hid hsn
        have HAC2 := Lib.hid hac2
        have HCT := Lib.hid hct
        have HBJ := Lib.hid hbj
        have hj1 : (j : Int) + 1 ≤ 1 := by omega
        by_cases hcd : 128 ≤ d ∧ d < 192
        · have hcd1 : (128 : Int) ≤ (d : Int) := by omega
          have hcd2 : (d : Int) < 192 := by omega
          have hnew : ((A : Int) * 64 + (d : Int) - 128) = ((accN s i n0 (j + 1) : Nat) : Int) := by rw [hac2]; omega
          have HNEW := Lib.hid hnew
          have hg2 : goOn s i (j + 1) = true := by rw [hsn, hgo.out, hct]; simp [hcd]
          have HG2 := Lib.hid hg2
          have hix : ∀ W : World, (Instr.index 9 (.string s) (.int .i64 ((i : Int) + ((j : Int) + 1)))).run Tryz.prog W = .ok (.int .u8 (d : Int)) W := fun W => by
            rw [run_index_string (P := Tryz.prog) W 9 s .i64 _ Tryz.underlying9, dif_pos (by omega)]
            have : ((i : Int) + ((j : Int) + 1)).toNat = i + j + 1 := by omega
            simp only [this, hbj]
          have hix2 : ∀ W : World, (Instr.index 9 (.string s) (.int .i64 ((i : Int) + (j : Int) + 1))).run Tryz.prog W = .ok (.int .u8 (d : Int)) W := fun W => by
            rw [← hix W, Int.add_assoc]
          have HS := Lib.hid hz
          clear HBJ hsn hac2 hct hcd hnew hg2 hidx2 hac hbj hidx hix0 hq1 hsh hsh' hjs hsh2 hi z1 hl8 c2 c3 hnl q1 hkl
          have qa : decide ((d : Int) < 128) = false := by simp; omega
          have qb : decide ((d : Int) ≥ 192) = false := by simp; omega
          clear hcd1 hcd2
          go_wp2
          go_round
          case rel => exact ⟨j + 1, by omega, by go_num, by rw [HNEW.out], HG2⟩
          case measure => simp [intOf]; omega
        · have hix : ∀ W : World, (Instr.index 9 (.string s) (.int .i64 ((i : Int) + ((j : Int) + 1)))).run Tryz.prog W = .ok (.int .u8 (d : Int)) W := fun W => by
            rw [run_index_string (P := Tryz.prog) W 9 s .i64 _ Tryz.underlying9, dif_pos (by omega)]
            have : ((i : Int) + ((j : Int) + 1)).toNat = i + j + 1 := by omega
            simp only [this, hbj]
          have hix2 : ∀ W : World, (Instr.index 9 (.string s) (.int .i64 ((i : Int) + (j : Int) + 1))).run Tryz.prog W = .ok (.int .u8 (d : Int)) W := fun W => by
            rw [← hix W, Int.add_assoc]
          have hg2 : goOn s i (j + 1) = false := by rw [hsn, hct]; simp; intro _ h; omega
          have hr : r1 s i = 0 := by
            rw [E1.out, if_neg]
            rintro ⟨h, -⟩
            rw [goOn_false s i _ _ hg2 (by omega)] at h; cases h
          have HR := Lib.hid hr
          clear HBJ hsn hac2 hct hg2 hidx2 hac hbj hidx hix0 hq1 hsh hsh' hjs hsh2 hi z1 hl8 c2 c3 hnl q1 hkl hr
          by_cases hc8 : d < 128
          · have qa : decide ((d : Int) < 128) = true := by simp; omega
            clear hcd hc8
            go_wp2
            go_ret2
            exact oneP_mk (by rw [HR.out]; rfl)
          · have qa : decide ((d : Int) < 128) = false := by simp; omega
            have qb : decide ((d : Int) ≥ 192) = true := by simp; omega
            clear hcd hc8
            go_wp2
            go_ret2
            exact oneP_mk (by rw [HR.out]; rfl)
      · obtain rfl : j = 1 := by omega
        have hr := E1.out
        rw [hgo.out] at hr
        generalize accN s i n0 1 = A at hac hr ⊢
        have HR := Lib.hid hr
        have hA0 : (0 : Int) ≤ (A : Int) := by omega
        have hA1 : (A : Int) < 8388608 := by omega
        clear hr E1 hsh hsh' hsh2 hi z1 c2 c3 hnl q1 hkl hix0 hq1 hlt hj
        by_cases hL : A < 128
        · have qa : decide ((A : Int) < 128) = true := by simp; omega
          have hr0 : r1 s i = 0 := by rw [HR.out, if_neg (by omega)]
          have HR0 := Lib.hid hr0
          clear hr0 hL
          go_wp2
          go_ret2
          exact oneP_mk (by rw [HR0.out]; rfl)
        · have qa : decide ((A : Int) < 128) = false := by simp; omega
          cases hB : runeB A with
          | true =>
            have hr0 : r1 s i = 1 + 1 := by rw [HR.out, if_pos ⟨rfl, by omega, hB⟩]
            have HR0 := Lib.hid hr0
            have HB := Lib.hid hB
            clear hr0 hL hB
            go_wp2_with fail
            refine (rune_any A hac _).mono ?_
            rw [HB.out]
            rintro e w1 ⟨rfl, rfl⟩
            go_wp2
            go_ret2
            exact oneP_mk (by rw [HR0.out]; rfl)
          | false =>
            have hr0 : r1 s i = 0 := by rw [HR.out, if_neg (by rw [hB]; simp)]
            have HR0 := Lib.hid hr0
            have HB := Lib.hid hB
            clear hr0 hL hB
            go_wp2_with fail
            refine (rune_any A hac _).mono ?_
            rw [HB.out]
            rintro e w1 ⟨rfl, rfl⟩
            go_wp2
            go_ret2
            exact oneP_mk (by rw [HR0.out]; rfl)
  · have hq1 : (b : Int) - 224 = (n0 : Int) := by omega
    clear hq q3
    have hz : (i : Int) + 2 < (s.size : Int) := by omega
    have hsh2 : i + 2 < s.size := by omega
    go_enter Tryz.func121, Tryz.ntmps121
    go_wp2
    go_loop [8, 10] (fun nv iv => ∃ j : Nat, j ≤ 2 ∧ iv = .int .i64 ((j : Int) + 1) ∧ nv = .int .i32 (accN s i n0 j : Nat) ∧ RowKit.Hid (goOn s i j = true)) (fun _ iv => 2 + 1 - (intOf iv).toNat)
    case atStart => exact ⟨0, by omega, rfl, rfl, Lib.hid rfl⟩
    case round =>
      obtain ⟨j, hj, rfl, rfl, hgo⟩ := hrel
      have hac := HAC.out j (by omega)
      by_cases hlt : j < 2
      · have hjs : i + j + 1 < s.size := by omega
        have hbj : s[i + j + 1].toNat = bAt s (i + j + 1) := by unfold bAt; rw [← bAt_get s (i + j + 1) hjs]; rfl
        have hl8 := bAt_lt s (i + j + 1)
        have hidx : ((i : Int) + ((j : Int) + 1)) = ((i + j + 1 : Nat) : Int) := by omega
        have hsn : goOn s i (j + 1) = (goOn s i j && contAt s (i + j + 1)) := rfl
        have hac2 : accN s i n0 (j + 1) = accN s i n0 j * 64 + bAt s (i + j + 1) % 64 := rfl
        have hidx2 : (s.get! (i + j + 1)).toNat = bAt s (i + j + 1) := rfl
        generalize bAt s (i + j + 1) = d at hbj hl8 hac2 hidx2
        have hct : contAt s (i + j + 1) = decide (128 ≤ d ∧ d < 192) := by
          unfold contAt; unfold bAt; rw [hidx2, decide_eq_true hjs, Bool.true_and, Bool.eq_iff_iff]; simp; omega
        have hdl : (d : Int) ≤ 255 := by omega
        have hd0 : (0 : Int) ≤ (d : Int) := by omega
        generalize accN s i n0 j = A at hac hac2 ⊢
        have hA0 : (0 : Int) ≤ (A : Int) := by omega
        have hA1 : (A : Int) < 8388608 := by omega
        have HSN := Lib.hid hsn
        have HAC2 := Lib.hid hac2
        have HCT := Lib.hid hct
        have HBJ := Lib.hid hbj
        have hj1 : (j : Int) + 1 ≤ 2 := by omega
        by_cases hcd : 128 ≤ d ∧ d < 192
        · have hcd1 : (128 : Int) ≤ (d : Int) := by omega
          have hcd2 : (d : Int) < 192 := by omega
          have hnew : ((A : Int) * 64 + (d : Int) - 128) = ((accN s i n0 (j + 1) : Nat) : Int) := by rw [hac2]; omega
          have HNEW := Lib.hid hnew
          have hg2 : goOn s i (j + 1) = true := by rw [hsn, hgo.out, hct]; simp [hcd]
          have HG2 := Lib.hid hg2
          have hix : ∀ W : World, (Instr.index 9 (.string s) (.int .i64 ((i : Int) + ((j : Int) + 1)))).run Tryz.prog W = .ok (.int .u8 (d : Int)) W := fun W => by
            rw [run_index_string (P := Tryz.prog) W 9 s .i64 _ Tryz.underlying9, dif_pos (by omega)]
            have : ((i : Int) + ((j : Int) + 1)).toNat = i + j + 1 := by omega
            simp only [this, hbj]
          have hix2 : ∀ W : World, (Instr.index 9 (.string s) (.int .i64 ((i : Int) + (j : Int) + 1))).run Tryz.prog W = .ok (.int .u8 (d : Int)) W := fun W => by
            rw [← hix W, Int.add_assoc]
          have HS := Lib.hid hz
          clear HBJ hsn hac2 hct hcd hnew hg2 hidx2 hac hbj hidx hix0 hq1 hsh hsh' hjs hsh2 hi z1 hl8 c2 c3 hnl q1 hkl
          have qa : decide ((d : Int) < 128) = false := by simp; omega
          have qb : decide ((d : Int) ≥ 192) = false := by simp; omega
          clear hcd1 hcd2
          go_wp2
          go_round
          case rel => exact ⟨j + 1, by omega, by go_num, by rw [HNEW.out], HG2⟩
          case measure => simp [intOf]; omega
        · have hix : ∀ W : World, (Instr.index 9 (.string s) (.int .i64 ((i : Int) + ((j : Int) + 1)))).run Tryz.prog W = .ok (.int .u8 (d : Int)) W := fun W => by
            rw [run_index_string (P := Tryz.prog) W 9 s .i64 _ Tryz.underlying9, dif_pos (by omega)]
            have : ((i : Int) + ((j : Int) + 1)).toNat = i + j + 1 := by omega
            simp only [this, hbj]
          have hix2 : ∀ W : World, (Instr.index 9 (.string s) (.int .i64 ((i : Int) + (j : Int) + 1))).run Tryz.prog W = .ok (.int .u8 (d : Int)) W := fun W => by
            rw [← hix W, Int.add_assoc]
          have hg2 : goOn s i (j + 1) = false := by rw [hsn, hct]; simp; intro _ h; omega
          have hr : r1 s i = 0 := by
            rw [E1.out, if_neg]
            rintro ⟨h, -⟩
            rw [goOn_false s i _ _ hg2 (by omega)] at h; cases h
          have HR := Lib.hid hr
          clear HBJ hsn hac2 hct hg2 hidx2 hac hbj hidx hix0 hq1 hsh hsh' hjs hsh2 hi z1 hl8 c2 c3 hnl q1 hkl hr
          by_cases hc8 : d < 128
          · have qa : decide ((d : Int) < 128) = true := by simp; omega
            clear hcd hc8
            go_wp2
            go_ret2
            exact oneP_mk (by rw [HR.out]; rfl)
          · have qa : decide ((d : Int) < 128) = false := by simp; omega
            have qb : decide ((d : Int) ≥ 192) = true := by simp; omega
            clear hcd hc8
            go_wp2
            go_ret2
            exact oneP_mk (by rw [HR.out]; rfl)
      · obtain rfl : j = 2 := by omega
        have hr := E1.out
        rw [hgo.out] at hr
        generalize accN s i n0 2 = A at hac hr ⊢
        have HR := Lib.hid hr
        have hA0 : (0 : Int) ≤ (A : Int) := by omega
        have hA1 : (A : Int) < 8388608 := by omega
        clear hr E1 hsh hsh' hsh2 hi z1 c2 c3 hnl q1 hkl hix0 hq1 hlt hj
        by_cases hL : A < 2048
        · have qa : decide ((A : Int) < 2048) = true := by simp; omega
          have hr0 : r1 s i = 0 := by rw [HR.out, if_neg (by omega)]
          have HR0 := Lib.hid hr0
          clear hr0 hL
          go_wp2
          go_ret2
          exact oneP_mk (by rw [HR0.out]; rfl)
        · have qa : decide ((A : Int) < 2048) = false := by simp; omega
          cases hB : runeB A with
          | true =>
            have hr0 : r1 s i = 2 + 1 := by rw [HR.out, if_pos ⟨rfl, by omega, hB⟩]
            have HR0 := Lib.hid hr0
            have HB := Lib.hid hB
            clear hr0 hL hB
            go_wp2_with fail
            refine (rune_any A hac _).mono ?_
            rw [HB.out]
            rintro e w1 ⟨rfl, rfl⟩
            go_wp2
            go_ret2
            exact oneP_mk (by rw [HR0.out]; rfl)
          | false =>
            have hr0 : r1 s i = 0 := by rw [HR.out, if_neg (by rw [hB]; simp)]
            have HR0 := Lib.hid hr0
            have HB := Lib.hid hB
            clear hr0 hL hB
            go_wp2_with fail
            refine (rune_any A hac _).mono ?_
            rw [HB.out]
            rintro e w1 ⟨rfl, rfl⟩
            go_wp2
            go_ret2
            exact oneP_mk (by rw [HR0.out]; rfl)
  · have hq1 : (b : Int) - 240 = (n0 : Int) := by omega
    clear hq q3
    have hz : (i : Int) + 3 < (s.size : Int) := by omega
    have hsh2 : i + 3 < s.size := by omega
    go_enter Tryz.func121, Tryz.ntmps121
    go_wp2
    go_loop [8, 10] (fun nv iv => ∃ j : Nat, j ≤ 3 ∧ iv = .int .i64 ((j : Int) + 1) ∧ nv = .int .i32 (accN s i n0 j : Nat) ∧ RowKit.Hid (goOn s i j = true)) (fun _ iv => 3 + 1 - (intOf iv).toNat)
    case atStart => exact ⟨0, by omega, rfl, rfl, Lib.hid rfl⟩
    case round =>
      obtain ⟨j, hj, rfl, rfl, hgo⟩ := hrel
      have hac := HAC.out j (by omega)
      by_cases hlt : j < 3
      · have hjs : i + j + 1 < s.size := by omega
        have hbj : s[i + j + 1].toNat = bAt s (i + j + 1) := by unfold bAt; rw [← bAt_get s (i + j + 1) hjs]; rfl
        have hl8 := bAt_lt s (i + j + 1)
        have hidx : ((i : Int) + ((j : Int) + 1)) = ((i + j + 1 : Nat) : Int) := by omega
        have hsn : goOn s i (j + 1) = (goOn s i j && contAt s (i + j + 1)) := rfl
        have hac2 : accN s i n0 (j + 1) = accN s i n0 j * 64 + bAt s (i + j + 1) % 64 := rfl
        have hidx2 : (s.get! (i + j + 1)).toNat = bAt s (i + j + 1) := rfl
        generalize bAt s (i + j + 1) = d at hbj hl8 hac2 hidx2
        have hct : contAt s (i + j + 1) = decide (128 ≤ d ∧ d < 192) := by
          unfold contAt; unfold bAt; rw [hidx2, decide_eq_true hjs, Bool.true_and, Bool.eq_iff_iff]; simp; omega
        have hdl : (d : Int) ≤ 255 := by omega
        have hd0 : (0 : Int) ≤ (d : Int) := by omega
        generalize accN s i n0 j = A at hac hac2 ⊢
        have hA0 : (0 : Int) ≤ (A : Int) := by omega
        have hA1 : (A : Int) < 8388608 := by omega
        have HSN := Lib.hid hsn
        have HAC2 := Lib.hid hac2
        have HCT := Lib.hid hct
        have HBJ := Lib.hid hbj
        have hj1 : (j : Int) + 1 ≤ 3 := by omega
        by_cases hcd : 128 ≤ d ∧ d < 192
        · have hcd1 : (128 : Int) ≤ (d : Int) := by omega
          have hcd2 : (d : Int) < 192 := by omega
          have hnew : ((A : Int) * 64 + (d : Int) - 128) = ((accN s i n0 (j + 1) : Nat) : Int) := by rw [hac2]; omega
          have HNEW := Lib.hid hnew
          have hg2 : goOn s i (j + 1) = true := by rw [hsn, hgo.out, hct]; simp [hcd]
          have HG2 := Lib.hid hg2
          have hix : ∀ W : World, (Instr.index 9 (.string s) (.int .i64 ((i : Int) + ((j : Int) + 1)))).run Tryz.prog W = .ok (.int .u8 (d : Int)) W := fun W => by
            rw [run_index_string (P := Tryz.prog) W 9 s .i64 _ Tryz.underlying9, dif_pos (by omega)]
            have : ((i : Int) + ((j : Int) + 1)).toNat = i + j + 1 := by omega
            simp only [this, hbj]
          have hix2 : ∀ W : World, (Instr.index 9 (.string s) (.int .i64 ((i : Int) + (j : Int) + 1))).run Tryz.prog W = .ok (.int .u8 (d : Int)) W := fun W => by
            rw [← hix W, Int.add_assoc]
          have HS := Lib.hid hz
          clear HBJ hsn hac2 hct hcd hnew hg2 hidx2 hac hbj hidx hix0 hq1 hsh hsh' hjs hsh2 hi z1 hl8 c2 c3 hnl q1 hkl
          have qa : decide ((d : Int) < 128) = false := by simp; omega
          have qb : decide ((d : Int) ≥ 192) = false := by simp; omega
          clear hcd1 hcd2
          go_wp2
          go_round
          case rel => exact ⟨j + 1, by omega, by go_num, by rw [HNEW.out], HG2⟩
          case measure => simp [intOf]; omega
        · have hix : ∀ W : World, (Instr.index 9 (.string s) (.int .i64 ((i : Int) + ((j : Int) + 1)))).run Tryz.prog W = .ok (.int .u8 (d : Int)) W := fun W => by
            rw [run_index_string (P := Tryz.prog) W 9 s .i64 _ Tryz.underlying9, dif_pos (by omega)]
            have : ((i : Int) + ((j : Int) + 1)).toNat = i + j + 1 := by omega
            simp only [this, hbj]
          have hix2 : ∀ W : World, (Instr.index 9 (.string s) (.int .i64 ((i : Int) + (j : Int) + 1))).run Tryz.prog W = .ok (.int .u8 (d : Int)) W := fun W => by
            rw [← hix W, Int.add_assoc]
          have hg2 : goOn s i (j + 1) = false := by rw [hsn, hct]; simp; intro _ h; omega
          have hr : r1 s i = 0 := by
            rw [E1.out, if_neg]
            rintro ⟨h, -⟩
            rw [goOn_false s i _ _ hg2 (by omega)] at h; cases h
          have HR := Lib.hid hr
          clear HBJ hsn hac2 hct hg2 hidx2 hac hbj hidx hix0 hq1 hsh hsh' hjs hsh2 hi z1 hl8 c2 c3 hnl q1 hkl hr
          by_cases hc8 : d < 128
          · have qa : decide ((d : Int) < 128) = true := by simp; omega
            clear hcd hc8
            go_wp2
            go_ret2
            exact oneP_mk (by rw [HR.out]; rfl)
          · have qa : decide ((d : Int) < 128) = false := by simp; omega
            have qb : decide ((d : Int) ≥ 192) = true := by simp; omega
            clear hcd hc8
            go_wp2
            go_ret2
            exact oneP_mk (by rw [HR.out]; rfl)
      · obtain rfl : j = 3 := by omega
        have hr := E1.out
        rw [hgo.out] at hr
        generalize accN s i n0 3 = A at hac hr ⊢
        have HR := Lib.hid hr
        have hA0 : (0 : Int) ≤ (A : Int) := by omega
        have hA1 : (A : Int) < 8388608 := by omega
        clear hr E1 hsh hsh' hsh2 hi z1 c2 c3 hnl q1 hkl hix0 hq1 hlt hj
        by_cases hL : A < 65536
        · have qa : decide ((A : Int) < 65536) = true := by simp; omega
          have hr0 : r1 s i = 0 := by rw [HR.out, if_neg (by omega)]
          have HR0 := Lib.hid hr0
          clear hr0 hL
          go_wp2
          go_ret2
          exact oneP_mk (by rw [HR0.out]; rfl)
        · have qa : decide ((A : Int) < 65536) = false := by simp; omega
          cases hB : runeB A with
          | true =>
            have hr0 : r1 s i = 3 + 1 := by rw [HR.out, if_pos ⟨rfl, by omega, hB⟩]
            have HR0 := Lib.hid hr0
            have HB := Lib.hid hB
            clear hr0 hL hB
            go_wp2_with fail
            refine (rune_any A hac _).mono ?_
            rw [HB.out]
            rintro e w1 ⟨rfl, rfl⟩
            go_wp2
            go_ret2
            exact oneP_mk (by rw [HR0.out]; rfl)
          | false =>
            have hr0 : r1 s i = 0 := by rw [HR.out, if_neg (by rw [hB]; simp)]
            have HR0 := Lib.hid hr0
            have HB := Lib.hid hB
            clear hr0 hL hB
            go_wp2_with fail
            refine (rune_any A hac _).mono ?_
            rw [HB.out]
            rintro e w1 ⟨rfl, rfl⟩
            go_wp2
            go_ret2
            exact oneP_mk (by rw [HR0.out]; rfl)
set_option maxHeartbeats 1000000 in
theorem rfirst_any (s : ByteArray) (hs : s.size ≤ 9223372036854775807) (w : World) :
    Calls Tryz.prog 97 #[.string s] w fun e w' => e = .returned (.int .i64 (firstV s)) ∧ w = w' := by
  go_enter Tryz.func97, Tryz.ntmps97
  go_wp2
  go_loop [3] (fun at_ => ∃ (pos fuel : Nat), at_ = .int .i64 pos ∧ pos ≤ s.size ∧ s.size < pos + fuel ∧ RowKit.Hid (first? s = firstF s fuel pos)) (fun at_ => s.size - (intOf at_).toNat)
  case atStart => exact ⟨0, s.size + 1, rfl, by omega, by omega, Lib.hid rfl⟩
  case round =>
    obtain ⟨pos, fuel, rfl, hle, hfu, hF⟩ := hrel
    by_cases hp : pos < s.size
    · obtain ⟨f, rfl⟩ : ∃ f, fuel = f + 1 := ⟨fuel - 1, by omega⟩
      have hin := r1_in s pos hp
      have HT := Lib.hid (fun W => one_any s pos hp hs W)
      have HW := Lib.hid (r1_width s pos)
      have hr4 := r1_le s pos
      by_cases h0 : r1 s pos = 0
      · have hv : firstV s = pos := firstV_of s pos (by rw [hF.out, firstF_hit s hp h0])
        have HV := Lib.hid hv
        have z0 : ((r1 s pos : Int) == 0) = true := by simp; omega
        have HIN := Lib.hid hin
        clear h0 hv hin hr4
        go_wp2_with fail
        refine (HT.out _).mono ?_
        rintro e w1 ⟨⟨n, rfl⟩, rfl⟩
        go_wp2
        go_ret
        exact ⟨ret_int HV.out.symm, rfl⟩
      · have hst := firstF_step s (f := f) hp h0
        have HST := Lib.hid hst
        have z0 : ((r1 s pos : Int) == 0) = false := by simp; omega
        have z1 : (pos : Int) + (r1 s pos : Int) ≤ (s.size : Int) := by omega
        have h1 : 1 ≤ r1 s pos := by omega
        clear h0 hst
        obtain ⟨R, hR⟩ : ∃ R, R = r1 s pos := ⟨_, rfl⟩
        rw [← hR] at z0 z1 HST hin hr4 h1
        have HR := Lib.hid hR
        clear hR
        go_wp2_with fail
        refine (HT.out _).mono ?_
        rintro e w1 ⟨⟨n, rfl⟩, rfl⟩
        rw [← HR.out]
        go_wp2
        go_round
        case rel => exact ⟨pos + R, f, by go_num, hin, by omega, Lib.hid (by rw [hF.out, HST.out])⟩
        case measure => simp [intOf]; omega
    · have hv : firstV s = -1 := firstV_none s (by rw [hF.out, firstF_end s hp])
      have HV := Lib.hid hv
      clear hv
      go_wp2
      go_ret
      exact ⟨ret_int HV.out.symm, rfl⟩
set_option maxHeartbeats 1000000 in
theorem rcheck_any (s : ByteArray) (most : Int) (hs : s.size ≤ 9223372036854775807) (w : World) :
    Calls Tryz.prog 73 #[.string s, .int .i64 most] w fun e w' => e = .returned (.int .i64 (chkV s most)) ∧ w = w' := by
  by_cases h : most < s.size
  · have e := chk_long s most h
    have E := Lib.hid e
    clear e
    go_enter Tryz.func73, Tryz.ntmps73
    go_wp2
    go_ret
    exact ⟨ret_int (by rw [E.out]; rfl), rfl⟩
  · by_cases h1 : 0 ≤ firstV s
    all_goals (
      first
      | have e := chk_utf s most h h1
      | have e := chk_ok s most h h1)
    all_goals (
      have E := Lib.hid e
      have K := Lib.hid (fun W => rfirst_any s hs W)
      generalize firstV s = fv at h1 K
      clear e
      go_enter Tryz.func73, Tryz.ntmps73
      go_wp2_with fail
      refine (K.out _).mono ?_
      rintro e w1 ⟨rfl, rfl⟩
      go_wp2
      go_ret
      exact ⟨ret_int (by rw [E.out]; rfl), rfl⟩)
end Go.Proofs.YtbjoohafgkodcaaGreat
