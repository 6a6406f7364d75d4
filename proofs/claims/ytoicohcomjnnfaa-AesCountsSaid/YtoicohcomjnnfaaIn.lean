/- The searches of a list of numbers: place.Loses and the reference ask them. No condition. -/
import Derived.Test.YtoicohcomjnnfaaRows
import Derived.Test.YtoicohcomjnnfaaBase
namespace Go.Proofs.Ytoicohcomjnnfaa
open Go Go.RowKit

theorem not_mem_take_succ {xs : List Int} {x : Int} {k : Nat} (hk : k < xs.length) (h : x ∉ xs.take k) (hx : (xs[k] == x) = false) : x ∉ xs.take (k + 1) := by
  rw [List.take_succ_eq_append_getElem hk]
  have : ¬ x = xs[k] := by intro e; simp [e] at hx
  intro hm
  rcases List.mem_append.1 hm with hm | hm
  · exact h hm
  · simp only [List.mem_singleton] at hm; exact this hm

set_option maxHeartbeats 400000 in
theorem in_any (v : Value) (xs : List Int) (x : Int) (w : World) (B : Nat) (h : Ints w B v xs) :
    Calls Try.prog 46 #[v, .int .i64 x] w fun e w' => e = .returned (.bool (decide (x ∈ xs))) ∧ w = w' := by
  obtain ⟨A, c, rfl, h1, h2, h3⟩ := h.open_
  unfold maxLen at h2
  go_enter Try.func46, Try.ntmps46
  go_wp2
  go_loop [5, 8] (fun _ i => ∃ k : Nat, k ≤ xs.length ∧ i = .int .i64 k ∧ x ∉ xs.take k) (fun _ i => xs.length - (intOf i).toNat)
  case atStart => exact ⟨0, Nat.zero_le _, rfl, by simp⟩
  case round =>
    obtain ⟨k, hk, rfl, hn⟩ := hrel
    by_cases hlt : k < xs.length
    · obtain ⟨b, o, rfl, _, hc⟩ := h3 (by omega)
      have hc := hc k hlt
      go_wp2
      · go_ret
        have e : (xs[k] == x) = true := by assumption
        have e : xs[k] = x := by simpa using e
        exact ⟨by simp [← e], rfl⟩
      · go_round
        case rel => exact ⟨k + 1, by omega, by go_num, not_mem_take_succ hlt hn (by assumption)⟩
        case measure => simp [intOf]; omega
    · go_wp2
      go_ret
      have e : xs.take k = xs := List.take_of_length_le (by omega)
      rw [e] at hn
      exact ⟨by simp [hn], rfl⟩

/-- What the library's search answers: at or above nought just where there is such a number. -/
def FoundInt (x : Int) (xs : List Int) (w : World) (e : Ending) (w' : World) : Prop := ∃ n : Int, e = .returned (.int .i64 n) ∧ (decide (0 ≤ n)) = decide (x ∈ xs) ∧ w = w'

set_option maxHeartbeats 400000 in
theorem index_any (v : Value) (xs : List Int) (x : Int) (w : World) (B : Nat) (h : Ints w B v xs) :
    Calls Try.prog 54 #[v, .int .i64 x] w (FoundInt x xs w) := by
  obtain ⟨A, c, rfl, h1, h2, h3⟩ := h.open_
  unfold maxLen at h2
  go_enter Try.func54, Try.ntmps54
  go_wp2
  go_loop [5, 8] (fun _ i => ∃ k : Nat, k ≤ xs.length ∧ i = .int .i64 k ∧ x ∉ xs.take k) (fun _ i => xs.length - (intOf i).toNat)
  case atStart => exact ⟨0, Nat.zero_le _, rfl, by simp⟩
  case round =>
    obtain ⟨k, hk, rfl, hn⟩ := hrel
    by_cases hlt : k < xs.length
    · obtain ⟨b, o, rfl, _, hc⟩ := h3 (by omega)
      have hc := hc k hlt
      go_wp2
      · go_ret
        have e : (x == xs[k]) = true := by assumption
        have e : x = xs[k] := by simpa using e
        exact ⟨k, rfl, by simp [e], rfl⟩
      · go_round
        case rel =>
          have e : (x == xs[k]) = false := by assumption
          exact ⟨k + 1, by omega, by go_num, not_mem_take_succ hlt hn (by simp at e ⊢; exact fun h => e h.symm)⟩
        case measure => simp [intOf]; omega
    · go_wp2
      go_ret
      have e : xs.take k = xs := List.take_of_length_le (by omega)
      rw [e] at hn
      exact ⟨-1, rfl, by simp [hn], rfl⟩

set_option maxHeartbeats 400000 in
theorem contains_any (v : Value) (xs : List Int) (x : Int) (w : World) (B : Nat) (h : Ints w B v xs) :
    Calls Try.prog 40 #[v, .int .i64 x] w fun e w' => e = .returned (.bool (decide (x ∈ xs))) ∧ w = w' := by
  have h' := hide (index_any v xs x w B h)
  go_enter Try.func40, Try.ntmps40
  go_wp2_with fail
  refine h'.out.mono ?_
  rintro e w' ⟨n, rfl, hn, rfl⟩
  go_wp2_with fail
  go_ret
  exact ⟨rfl, rfl⟩
end Go.Proofs.Ytoicohcomjnnfaa
