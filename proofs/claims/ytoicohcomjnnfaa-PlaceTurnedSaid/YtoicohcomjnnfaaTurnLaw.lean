/- In whichever order servers and shares stand there are as many pairs. Plain law. -/
import Derived.Test.YtoicohcomjnnfaaPairsMore
namespace Go.Proofs.Ytoicohcomjnnfaa
open Go Go.RowKit

theorem mm_le_map (l l' : List (List Int)) (g : Nat → Nat) (hg : ∀ t, t < l.length → g t < l'.length) (hinj : ∀ t t', t < l.length → t' < l.length → g t = g t' → t = t')
    (hmem : ∀ t, t < l.length → ∀ n : Nat, n < 16 → (n : Int) ∈ l.getD t [] → (n : Int) ∈ l'.getD (g t) []) : (mmR l fun _ => false) ≤ mmR l' fun _ => false := by
  obtain ⟨⟨f, hf, e⟩, _⟩ := mmR_max l
  obtain ⟨_, hm'⟩ := mmR_max l'
  have h := hm' (fun n => if 0 ≤ f n then (g (f n).toNat : Int) else f n) ⟨fun n hn h0 => ?_, fun n m hn hm h0 e => ?_⟩
  · have : sz f ≤ sz (fun n => if 0 ≤ f n then (g (f n).toNat : Int) else f n) := by
      refine List.countP_mono_left fun n hn h => ?_
      have h0 : 0 ≤ f n := by simpa using h
      simp [h0]
    omega
  · split at h0
    · rename_i h1
      obtain ⟨a, b, c⟩ := hf.ok n hn h1
      simp only [if_pos h1, Int.toNat_natCast]
      exact ⟨hg _ a, hmem _ a n hn b, c⟩
    · omega
  · split at h0
    · rename_i h1
      simp only [if_pos h1] at e
      split at e
      · rename_i h2
        have a := (hf.ok n hn h1).1
        have b := (hf.ok m hm h2).1
        have := hinj _ _ a b (by omega)
        exact hf.inj n m hn hm h1 (by omega)
      · omega
    · omega

def turnedF (l : List (List Int)) : List (List Int) := l.reverse.map List.reverse
theorem turned_len (l : List (List Int)) : (turnedF l).length = l.length := by simp [turnedF]
theorem turned_getD (l : List (List Int)) (t : Nat) (ht : t < l.length) : (turnedF l).getD t [] = (l.getD (l.length - 1 - t) []).reverse := by
  rw [getD_eq _ _ _ (by rw [turned_len]; exact ht), getD_eq _ _ _ (by omega)]
  simp [turnedF]
theorem mm_turned (l : List (List Int)) : (mmR (turnedF l) fun _ => false) = mmR l fun _ => false := by
  refine Nat.le_antisymm (mm_le_map _ _ (fun t => l.length - 1 - t) (fun t ht => ?_) (fun t t' ht ht' e => ?_) (fun t ht n _ h => ?_)) (mm_le_map _ _ (fun t => l.length - 1 - t) (fun t ht => ?_) (fun t t' ht ht' e => ?_) (fun t ht n _ h => ?_))
  · rw [turned_len] at ht; omega
  · rw [turned_len] at ht ht'; omega
  · rw [turned_len] at ht
    rw [turned_getD l t ht] at h
    simpa using h
  · rw [turned_len]; omega
  · omega
  · rw [turned_getD l _ (by omega), show l.length - 1 - (l.length - 1 - t) = t from by omega]
    simpa using h

def twiceF (l : List (List Int)) (x : Int) : List (List Int) := l.map fun r => r ++ r ++ [-1 - x, 16 + x]
theorem mm_twice (l : List (List Int)) (x : Int) (hx : 0 ≤ x) : (mmR (twiceF l x) fun _ => false) = mmR l fun _ => false := by
  have hl : (twiceF l x).length = l.length := by simp [twiceF]
  have hg : ∀ t, t < l.length → (twiceF l x).getD t [] = l.getD t [] ++ l.getD t [] ++ [-1 - x, 16 + x] := fun t ht => by
    rw [getD_eq _ _ _ (by omega), getD_eq _ _ _ ht]; simp [twiceF]
  refine Nat.le_antisymm (mm_le_map _ _ id (fun t ht => by simp only [id]; omega) (fun t t' _ _ e => e) (fun t ht n hn h => ?_)) (mm_le_map _ _ id (fun t ht => by simp only [id]; omega) (fun t t' _ _ e => e) (fun t ht n _ h => ?_))
  · rw [hg t (by omega)] at h
    simp only [List.mem_append, List.mem_cons, List.not_mem_nil, or_false] at h
    rcases h with (h | h) | h | h
    · exact h
    · exact h
    · omega
    · omega
  · simp only [id]
    rw [hg t ht]
    exact List.mem_append_left _ (List.mem_append_left _ h)
end Go.Proofs.Ytoicohcomjnnfaa
