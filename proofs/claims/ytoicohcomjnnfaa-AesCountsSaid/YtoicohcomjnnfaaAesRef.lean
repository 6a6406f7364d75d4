/- ref.twice, ref.boxes: the same doubling, and the table by powers and logarithms. -/
import Derived.Test.YtoicohcomjnnfaaAesBoxLaw
import Derived.Deep.LoopGhost
namespace Go.Proofs.Ytoicohcomjnnfaa
open Go Go.RowKit

theorem and128 : ∀ n : Fin 256, (bits .and .u8 ((n.val : Nat) : Int) 128 != 0) = decide (128 ≤ n.val) := by decide +kernel
theorem tw_ge (a : Int) (h0 : 0 ≤ a) (h1 : a < 256) : tw a = if 128 ≤ a then X8 (a * 2 % 256) 27 else a * 2 % 256 := by
  obtain ⟨n, rfl⟩ := Int.eq_ofNat_of_zero_le h0
  have h := and128 ⟨n, by omega⟩
  simp only at h
  unfold tw
  rw [h]
  by_cases e : 128 ≤ n
  · rw [if_pos (by simpa using e), if_pos (by omega)]
  · rw [if_neg (by simpa using e), if_neg (by omega)]

set_option maxHeartbeats 400000 in
theorem twice_ref (a : Int) (w : World) (h0 : 0 ≤ a) (h1 : a < 256) :
    Calls Try.prog 59 #[.int .u8 a] w fun e w' => e = .returned (.int .u8 (tw a)) ∧ w = w' := by
  have H := hide (tw_ge a h0 h1)
  go_enter Try.func59, Try.ntmps59
  by_cases hc : 128 ≤ a
  · go_wp2
    go_ret
    refine ⟨?_, rfl⟩
    rw [H.out, if_pos hc]
    rfl
  · go_wp2
    go_ret
    refine ⟨?_, rfl⟩
    rw [H.out, if_neg (by omega), Int.emod_eq_of_lt (by omega) (by omega)]
    rfl

def refS : Nat → Int × List Int × List Int
  | 0 => (1, List.replicate 256 0, List.replicate 256 0)
  | k + 1 => (X8 (refS k).1 (tw (refS k).1), (refS k).2.1.set k (refS k).1, (refS k).2.2.set (refS k).1.toNat k)
def byteL (l : List Int) : Prop := l.length = 256 ∧ ∀ u ∈ l, 0 ≤ u ∧ u < 256
theorem byteL_set {l : List Int} (h : byteL l) (i : Nat) {x : Int} (hx : 0 ≤ x ∧ x < 256) : byteL (l.set i x) :=
  ⟨by rw [List.length_set]; exact h.1, fun u hu => by
    rcases List.mem_or_eq_of_mem_set hu with h1 | h1
    · exact h.2 u h1
    · exact h1 ▸ hx⟩
theorem byteL_zero : byteL (List.replicate 256 0) := ⟨List.length_replicate, fun u hu => by
  have := (List.mem_replicate.1 hu).2; subst this; omega⟩
theorem refS_ok (k : Nat) (hk : k ≤ 255) : (0 ≤ (refS k).1 ∧ (refS k).1 < 256) ∧ byteL (refS k).2.1 ∧ byteL (refS k).2.2 := by
  induction k with
  | zero => exact ⟨by show (0:Int) ≤ 1 ∧ (1:Int) < 256; omega, byteL_zero, byteL_zero⟩
  | succ k ih =>
    obtain ⟨a, b, c⟩ := ih (by omega)
    exact ⟨x8_byte a (tw_byte a), byteL_set b _ a, byteL_set c _ (by omega)⟩
def rotN (v : Int) (j : Nat) : Int := bits .or .u8 (v * 2 ^ j % 256) (v / 2 ^ (8 - j))
def affS (v : Int) : Nat → Int
  | 0 => 99
  | j + 1 => X8 (affS v j) (rotN v j)
theorem bits_byte (op : BinOp) (a b : Int) : 0 ≤ bits op .u8 a b ∧ bits op .u8 a b < 256 := by
  unfold bits
  split <;> (rw [IntKind.wrap_u8]; omega)
theorem affS_byte {v : Int} (h0 : 0 ≤ v) (h1 : v < 256) (j : Nat) : 0 ≤ affS v j ∧ affS v j < 256 := by
  cases j with
  | zero => show (0 : Int) ≤ 99 ∧ (99 : Int) < 256; omega
  | succ j =>
    rw [show affS v (j + 1) = bits .xor .u8 (affS v j) (rotN v j) from rfl]
    exact bits_byte _ _ _
theorem byteL_get {l : List Int} (h : byteL l) (i : Nat) (hi : i < 256) : 0 ≤ l.getD i 0 ∧ l.getD i 0 < 256 := by
  rw [getD_el _ _ (by rw [h.1]; exact hi)]; exact h.2 _ (List.getElem_mem _)
def refInv (pow log : List Int) (i : Nat) : Int := if i = 0 then 0 else pow.getD ((255 - log.getD i 0) % 255).toNat 0
def refTab (pow log : List Int) : List Int := (List.range 256).map fun i => affS (refInv pow log i) 5
theorem refTab_len (pow log : List Int) : (refTab pow log).length = 256 := by simp [refTab]
theorem refTab_get (pow log : List Int) (j : Nat) (h : j < 256) : (refTab pow log).getD j 0 = affS (refInv pow log j) 5 := by
  rw [List.getD_eq_getElem?_getD, refTab, List.getElem?_map, List.getElem?_range h]; rfl
end Go.Proofs.Ytoicohcomjnnfaa
