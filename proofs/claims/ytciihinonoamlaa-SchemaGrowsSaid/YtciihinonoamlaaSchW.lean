/- Package schema: Word, Kind; the reference's Words: contracts. -/
import Derived.Test.YtciihinonoamlaaSchO
namespace Go.Proofs.Ytciihinonoamlaa
open Go Go.RowKit Go.Shelf

def wordsL : List ByteArray := [⟨#[104, 101, 108, 108, 111]⟩, ⟨#[97, 99, 107]⟩, ⟨#[115, 117, 98, 109, 105, 116]⟩, ⟨#[115, 116, 97, 114, 116]⟩, ⟨#[99, 111, 109, 109, 97, 110, 100]⟩, ⟨#[114, 101, 112, 108, 121]⟩, ⟨#[99, 97, 110, 99, 101, 108]⟩, ⟨#[113, 117, 101, 114, 121]⟩, ⟨#[115, 116, 97, 116, 117, 115]⟩, ⟨#[101, 114, 114, 111, 114]⟩]
def wordAt (k : Nat) : ByteArray := wordsL.getD k ⟨#[]⟩
def wordsV : Array Value := (wordsL.map Value.string).toArray
theorem zero_words (w : World) : (zeroValue 40).run Try.prog w = .ok (.agg (Array.replicate 10 (.string ⟨#[]⟩))) w := by kernel_rfl

set_option maxRecDepth 10000 in
set_option maxHeartbeats 1000000 in
theorem words_any (w : World) : Calls Try.prog 24 #[] w fun e w' => e = .returned (.agg wordsV) ∧ Grew w w' := by
  have hz := zero_words
  go_enter Try.func24, Try.ntmps24
  go_wp2
  refine bodyPost_ret (results_cell_row rfl _ _ w.heap.size 40 _ (0, 0) _ rfl (Blk.new w _ _) Try.underlying40 rfl (by kernel_rfl)) rfl ⟨?_, grew_alloc _ _⟩
  exact congrArg (fun x => Ending.returned (Value.agg x)) (by kernel_rfl)

set_option maxRecDepth 10000 in
set_option maxHeartbeats 1000000 in
theorem rwords_any (w : World) : Calls Try.prog 18 #[] w fun e w' => e = .returned (.agg wordsV) ∧ Grew w w' := by
  have hz := zero_words
  go_enter Try.func18, Try.ntmps18
  go_wp2
  refine bodyPost_ret (results_cell_row rfl _ _ w.heap.size 40 _ (0, 0) _ rfl (Blk.new w _ _) Try.underlying40 rfl (by kernel_rfl)) rfl ⟨?_, grew_alloc _ _⟩
  exact congrArg (fun x => Ending.returned (Value.agg x)) (by kernel_rfl)

/-- word k of the table, as the walk reads it -/
theorem index_words : ∀ k : Nat, k < 10 → ∀ w : World, (Instr.index 40 (.agg wordsV) (.int .i64 k)).run Try.prog w = .ok (.string (wordAt k)) w
  | 0, _ => fun _ => by kernel_rfl
  | 1, _ => fun _ => by kernel_rfl
  | 2, _ => fun _ => by kernel_rfl
  | 3, _ => fun _ => by kernel_rfl
  | 4, _ => fun _ => by kernel_rfl
  | 5, _ => fun _ => by kernel_rfl
  | 6, _ => fun _ => by kernel_rfl
  | 7, _ => fun _ => by kernel_rfl
  | 8, _ => fun _ => by kernel_rfl
  | 9, _ => fun _ => by kernel_rfl
  | n + 10, h => absurd h (by omega)
theorem index_words8 : ∀ k : Nat, k < 10 → ∀ w : World, (Instr.index 40 (.agg wordsV) (.int .u8 k)).run Try.prog w = .ok (.string (wordAt k)) w
  | 0, _ => fun _ => by kernel_rfl
  | 1, _ => fun _ => by kernel_rfl
  | 2, _ => fun _ => by kernel_rfl
  | 3, _ => fun _ => by kernel_rfl
  | 4, _ => fun _ => by kernel_rfl
  | 5, _ => fun _ => by kernel_rfl
  | 6, _ => fun _ => by kernel_rfl
  | 7, _ => fun _ => by kernel_rfl
  | 8, _ => fun _ => by kernel_rfl
  | 9, _ => fun _ => by kernel_rfl
  | n + 10, h => absurd h (by omega)

def wordV (k : Nat) : ByteArray := if k = 0 ∨ 10 < k then ⟨#[]⟩ else wordAt (k - 1)
set_option maxHeartbeats 1000000 in
theorem word_any (k : Nat) (w : World) : Calls Try.prog 19 #[.int .u8 k] w fun e w' => e = .returned (.string (wordV k)) ∧ Grew w w' := by
  by_cases h0 : k = 0
  · subst h0
    go_enter Try.func19, Try.ntmps19
    go_wp2
    go_ret
    exact ⟨rfl, Below.refl _ _⟩
  by_cases h1 : 10 < k
  · have hw : wordV k = ⟨#[]⟩ := by simp [wordV, h1]
    have HW := Lib.hid hw
    have h2 : ¬ ((k : Int) < 1) := by omega
    clear hw h0
    go_enter Try.func19, Try.ntmps19
    go_wp2
    go_ret
    exact ⟨by rw [HW.out]; rfl, Below.refl _ _⟩
  obtain ⟨j, rfl⟩ : ∃ j, k = j + 1 := ⟨k - 1, by omega⟩
  have hw : wordV (j + 1) = wordAt j := by simp [wordV]; omega
  have HW := Lib.hid hw
  have hi := index_words8 j (by omega)
  clear hw h0
  go_enter Try.func19, Try.ntmps19
  go_wp2_with fail
  refine (words_any _).mono ?_
  rintro e w1 ⟨rfl, hg⟩
  go_wp2
  go_ret
  exact ⟨by rw [HW.out]; rfl, hg⟩

/-- the first place of a word -/
def kindAt (s : ByteArray) : Option Nat := (List.range 10).find? fun k => (wordAt k).toList == s.toList
def kindV (s : ByteArray) : Int × Bool := match kindAt s with | some k => ((k : Int) + 1, true) | none => (0, false)
set_option maxHeartbeats 1000000 in
theorem kind_any (s : ByteArray) (w : World) : Calls Try.prog 20 #[.string s] w fun e w' => e = .returned (.tuple #[.int .u8 (kindV s).1, .bool (kindV s).2]) ∧ Grew w w' := by
  go_enter Try.func20, Try.ntmps20
  go_wp2_with fail
  refine (words_any _).mono ?_
  rintro e w1 ⟨rfl, hg⟩
  go_wp2_with fail
  go_loop [4, 5, 7] (fun _ _ i => ∃ k : Nat, k ≤ 10 ∧ i = .int .i64 k ∧ Hid ((List.range k).find? (fun k => (wordAt k).toList == s.toList) = none)) (fun _ _ i => 10 - (intOf i).toNat)
  case atStart => exact ⟨0, by omega, rfl, rfl⟩
  case round =>
    obtain ⟨k, hk, rfl, HN⟩ := hrel
    by_cases hlt : k < 10
    · have hi := index_words k hlt
      by_cases he : (wordAt k).toList = s.toList
      · have hb : ((wordAt k).toList == s.toList) = true := by rw [he]; simp
        have hv : kindV s = ((k : Int) + 1, true) := by
          have : kindAt s = some k := by
            unfold kindAt
            have h10 : List.range 10 = List.range k ++ (List.range' k (10 - k)) := by
              rw [List.range_eq_range', List.range_eq_range']; have := List.range'_append_1 (s := 0) (m := k) (n := 10 - k); rw [Nat.zero_add] at this; rw [this]; congr 1; omega
            rw [h10, List.find?_append, HN.out]
            obtain ⟨m, hm⟩ : ∃ m, 10 - k = m + 1 := ⟨9 - k, by omega⟩
            rw [hm, List.range'_succ]
            simp [hb]
          simp [kindV, this]
        have HV := Lib.hid hv
        clear hv he
        go_wp2
        go_ret2
        exact ⟨by rw [HV.out]; rfl, hg⟩
      · have hb : ((wordAt k).toList == s.toList) = false := beq_eq_false_iff_ne.2 he
        clear he
        go_wp2
        go_round
        case rel => exact ⟨k + 1, by omega, by go_num, by unfold Hid; rw [List.range_succ, List.find?_append, HN.out]; simp [hb]⟩
        case measure => simp [intOf]; omega
    · obtain rfl : k = 10 := by omega
      have hv : kindV s = (0, false) := by simp only [kindV, kindAt, HN.out]
      have HV := Lib.hid hv
      clear hv
      go_wp2
      go_ret2
      exact ⟨by rw [HV.out]; rfl, hg⟩
end Go.Proofs.Ytciihinonoamlaa
