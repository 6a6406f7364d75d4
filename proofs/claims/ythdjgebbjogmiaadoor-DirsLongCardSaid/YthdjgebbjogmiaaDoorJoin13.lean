/- aes.box: the plain law of the table, and the rotations.
ref.twice, ref.boxes: the same doubling, and the table by powers and logarithms. -/
import Derived.Test.YthdjgebbjogmiaaDoorJoin12
import Derived.Test.YthdjgebbjogmiaaDoorJoin1
import Derived.Deep.LoopGhost
namespace Go.Proofs.YthdjgebbjogmiaaDoor
open Go Go.RowKit
set_option maxRecDepth 100000

def rot1 (x : Int) : Int := bits .or .u8 (x * 2 % 256) (x / 128)
set_option maxHeartbeats 400000 in
theorem rot1_any (x : Int) (w : World) (h0 : 0 ≤ x) (h1 : x < 256) :
 Calls Tryd.prog 97 #[.int .u8 x, .int .i64 1] w fun e w' => e = .returned (.int .u8 (rot1 x)) ∧ w = w' := by
 have hk : bits BinOp.and IntKind.u64 1 7 = 1 := by decide
 go_enter Tryd.func97, Tryd.ntmps97
 go_wp2
 go_ret
 exact ⟨rfl, rfl⟩
def rot2 (x : Int) : Int := bits .or .u8 (x * 4 % 256) (x / 64)
set_option maxHeartbeats 400000 in
theorem rot2_any (x : Int) (w : World) (h0 : 0 ≤ x) (h1 : x < 256) :
 Calls Tryd.prog 97 #[.int .u8 x, .int .i64 2] w fun e w' => e = .returned (.int .u8 (rot2 x)) ∧ w = w' := by
 have hk : bits BinOp.and IntKind.u64 2 7 = 2 := by decide
 go_enter Tryd.func97, Tryd.ntmps97
 go_wp2
 go_ret
 exact ⟨rfl, rfl⟩
def rot3 (x : Int) : Int := bits .or .u8 (x * 8 % 256) (x / 32)
set_option maxHeartbeats 400000 in
theorem rot3_any (x : Int) (w : World) (h0 : 0 ≤ x) (h1 : x < 256) :
 Calls Tryd.prog 97 #[.int .u8 x, .int .i64 3] w fun e w' => e = .returned (.int .u8 (rot3 x)) ∧ w = w' := by
 have hk : bits BinOp.and IntKind.u64 3 7 = 3 := by decide
 go_enter Tryd.func97, Tryd.ntmps97
 go_wp2
 go_ret
 exact ⟨rfl, rfl⟩
def rot4 (x : Int) : Int := bits .or .u8 (x * 16 % 256) (x / 16)
set_option maxHeartbeats 400000 in
theorem rot4_any (x : Int) (w : World) (h0 : 0 ≤ x) (h1 : x < 256) :
 Calls Tryd.prog 97 #[.int .u8 x, .int .i64 4] w fun e w' => e = .returned (.int .u8 (rot4 x)) ∧ w = w' := by
 have hk : bits BinOp.and IntKind.u64 4 7 = 4 := by decide
 go_enter Tryd.func97, Tryd.ntmps97
 go_wp2
 go_ret
 exact ⟨rfl, rfl⟩

def boxP (p : Int) : Int := X8 p (tw p)
def boxQ1 (q : Int) : Int := X8 q (q * 2 % 256)
def boxQ2 (q : Int) : Int := X8 q (q * 4 % 256)
def boxQ3 (q : Int) : Int := X8 q (q * 16 % 256)
def boxQ4 (q : Int) : Int := if (bits .and .u8 q 128 != 0) = true then X8 q 9 else q
def boxQ (q : Int) : Int := boxQ4 (boxQ3 (boxQ2 (boxQ1 q)))
def boxX (q : Int) : Int := X8 (X8 (X8 (X8 (X8 q (rot1 q)) (rot2 q)) (rot3 q)) (rot4 q)) 99
def boxStep (s : Int × Int × List Int) : Int × Int × List Int :=
 let p := boxP s.1
 let q := boxQ s.2.1
 (p, q, s.2.2.set p.toNat (boxX q))
def boxS : Nat → Int × Int × List Int
 | 0 => (1, 1, List.replicate 256 0)
 | k + 1 => boxStep (boxS k)
theorem boxP_byte {p : Int} (h : 0 ≤ p ∧ p < 256) : 0 ≤ boxP p ∧ boxP p < 256 := x8_byte h (tw_byte h)
theorem boxQ4_byte {q : Int} (h : 0 ≤ q ∧ q < 256) : 0 ≤ boxQ4 q ∧ boxQ4 q < 256 := by
 unfold boxQ4; split
 · exact x8_byte h (by omega)
 · exact h
theorem boxQ_byte {q : Int} (h : 0 ≤ q ∧ q < 256) : 0 ≤ boxQ q ∧ boxQ q < 256 := by
 have h1 : 0 ≤ boxQ1 q ∧ boxQ1 q < 256 := x8_byte h (by omega)
 have h2 : 0 ≤ boxQ2 (boxQ1 q) ∧ boxQ2 (boxQ1 q) < 256 := x8_byte h1 (by omega)
 have h3 : 0 ≤ boxQ3 (boxQ2 (boxQ1 q)) ∧ boxQ3 (boxQ2 (boxQ1 q)) < 256 := x8_byte h2 (by omega)
 exact boxQ4_byte h3
theorem boxS_ok (k : Nat) : (0 ≤ (boxS k).1 ∧ (boxS k).1 < 256) ∧ (0 ≤ (boxS k).2.1 ∧ (boxS k).2.1 < 256) ∧ (boxS k).2.2.length = 256 := by
 induction k with
 | zero => exact ⟨by show (0:Int) ≤ 1 ∧ (1:Int) < 256; omega, by show (0:Int) ≤ 1 ∧ (1:Int) < 256; omega, by show (List.replicate 256 (0 : Int)).length = 256; rw [List.length_replicate]⟩
 | succ k ih => exact ⟨boxP_byte ih.1, boxQ_byte ih.2.1, by simpa [boxS, boxStep] using ih.2.2⟩
/-- From p on, n steps: not 1 till the last, then 1. -/
def boxEnds : Nat → Int → Bool
 | 0, p => p == 1
 | n + 1, p => p != 1 && boxEnds n (boxP p)
theorem box_ends : boxEnds 254 (boxP 1) = true := by decide +kernel
theorem boxEnds_at (n : Nat) : ∀ (p : Int) (k : Nat), boxEnds n p = true → k ≤ n → ((Nat.repeat boxP k p) == 1) = decide (k = n) := by
 induction n with
 | zero => intro p k h hk; obtain rfl : k = 0 := (by omega); show (p == 1) = decide (0 = 0); have h2 : (p == 1) = true := h; rw [h2]; rfl
 | succ n ih =>
  intro p k h hk
  simp only [boxEnds, Bool.and_eq_true] at h
  cases k with
  | zero =>
   have : (p == 1) = false := by simpa using h.1
   simp [Nat.repeat, this]
  | succ k =>
   have := ih (boxP p) k h.2 (by omega)
   have e : Nat.repeat boxP (k + 1) p = Nat.repeat boxP k (boxP p) := by
    clear this h ih
    induction k generalizing p with
    | zero => rfl
    | succ k ih => show boxP (Nat.repeat boxP (k + 1) p) = boxP (Nat.repeat boxP k (boxP p)); rw [ih p (by omega)]
   rw [e, this]
   simp
theorem boxS_fst (k : Nat) : (boxS k).1 = Nat.repeat boxP k 1 := by
 induction k with
 | zero => rfl
 | succ k ih => show boxP (boxS k).1 = boxP (Nat.repeat boxP k 1); rw [ih]
theorem box_last (k : Nat) (hk : k ≤ 254) : ((boxS (k + 1)).1 == 1) = decide (k = 254) := by
 have := boxEnds_at 254 (boxP 1) k box_ends hk
 rw [boxS_fst]
 have e : ∀ k p, Nat.repeat boxP (k + 1) p = Nat.repeat boxP k (boxP p) := by
  intro k
  induction k with
  | zero => intro p; rfl
  | succ k ih => intro p; show boxP (Nat.repeat boxP (k + 1) p) = boxP (Nat.repeat boxP k (boxP p)); rw [ih]
 rw [e, this]

def boxTab : List Int := (boxS 255).2.2.set 0 99
theorem boxTab_len : boxTab.length = 256 := by unfold boxTab; rw [List.length_set]; exact (boxS_ok 255).2.2

end Go.Proofs.YthdjgebbjogmiaaDoor

namespace Go.Proofs.YthdjgebbjogmiaaDoor
open Go Go.RowKit
set_option maxRecDepth 100000

theorem and128 : ∀ n : Fin 256, (bits .and .u8 ((n.val : Nat) : Int) 128 != 0) = decide (128 ≤ n.val) := by decide +kernel
theorem tw_ge (a : Int) (h0 : 0 ≤ a) (h1 : a < 256) : tw a = if 128 ≤ a then X8 (a * 2 % 256) 27 else a * 2 % 256 := by
 obtain ⟨n, rfl⟩ := Int.eq_ofNat_of_zero_le h0
 have h := and128 ⟨n, by omega⟩
 simp only at h
 unfold tw
 rw [h]
 by_cases e : 128 ≤ n
 · rw [if_pos (by simpa using e), if_pos (by omega)]
 · rw [if_neg (by simpa using e), if_neg (by omega)]

set_option maxHeartbeats 400000 in
theorem twice_ref (a : Int) (w : World) (h0 : 0 ≤ a) (h1 : a < 256) :
 Calls Tryd.prog 92 #[.int .u8 a] w fun e w' => e = .returned (.int .u8 (tw a)) ∧ w = w' := by
 have H := hide (tw_ge a h0 h1)
 go_enter Tryd.func92, Tryd.ntmps92
 by_cases hc : 128 ≤ a
 · go_wp2
   go_ret
   refine ⟨?_, rfl⟩
   rw [H.out, if_pos hc]
   rfl
 · go_wp2
   go_ret
   refine ⟨?_, rfl⟩
   rw [H.out, if_neg (by omega), Int.emod_eq_of_lt (by omega) (by omega)]
   rfl

def refS : Nat → Int × List Int × List Int
 | 0 => (1, List.replicate 256 0, List.replicate 256 0)
 | k + 1 => (X8 (refS k).1 (tw (refS k).1), (refS k).2.1.set k (refS k).1, (refS k).2.2.set (refS k).1.toNat k)
def byteL (l : List Int) : Prop := l.length = 256 ∧ ∀ u ∈ l, 0 ≤ u ∧ u < 256
theorem byteL_set {l : List Int} (h : byteL l) (i : Nat) {x : Int} (hx : 0 ≤ x ∧ x < 256) : byteL (l.set i x) :=
 ⟨by rw [List.length_set]; exact h.1, fun u hu => by
  rcases List.mem_or_eq_of_mem_set hu with h1 | h1
  · exact h.2 u h1
  · exact h1 ▸ hx⟩
theorem byteL_zero : byteL (List.replicate 256 0) := ⟨List.length_replicate, fun u hu => by
 have := (List.mem_replicate.1 hu).2; subst this; omega⟩
theorem refS_ok (k : Nat) (hk : k ≤ 255) : (0 ≤ (refS k).1 ∧ (refS k).1 < 256) ∧ byteL (refS k).2.1 ∧ byteL (refS k).2.2 := by
 induction k with
 | zero => exact ⟨by show (0:Int) ≤ 1 ∧ (1:Int) < 256; omega, byteL_zero, byteL_zero⟩
 | succ k ih =>
  obtain ⟨a, b, c⟩ := ih (by omega)
  exact ⟨x8_byte a (tw_byte a), byteL_set b _ a, byteL_set c _ (by omega)⟩
def rotN (v : Int) (j : Nat) : Int := bits .or .u8 (v * 2 ^ j % 256) (v / 2 ^ (8 - j))
def affS (v : Int) : Nat → Int
 | 0 => 99
 | j + 1 => X8 (affS v j) (rotN v j)
theorem bits_byte (op : BinOp) (a b : Int) : 0 ≤ bits op .u8 a b ∧ bits op .u8 a b < 256 := by
 unfold bits
 split <;> (rw [IntKind.wrap_u8]; omega)
theorem affS_byte {v : Int} (h0 : 0 ≤ v) (h1 : v < 256) (j : Nat) : 0 ≤ affS v j ∧ affS v j < 256 := by
 cases j with
 | zero => show (0 : Int) ≤ 99 ∧ (99 : Int) < 256; omega
 | succ j =>
  rw [show affS v (j + 1) = bits .xor .u8 (affS v j) (rotN v j) from rfl]
  exact bits_byte _ _ _
theorem byteL_get {l : List Int} (h : byteL l) (i : Nat) (hi : i < 256) : 0 ≤ l.getD i 0 ∧ l.getD i 0 < 256 := by
 rw [getD_el _ _ (by rw [h.1]; exact hi)]; exact h.2 _ (List.getElem_mem _)
def refInv (pow log : List Int) (i : Nat) : Int := if i = 0 then 0 else pow.getD ((255 - log.getD i 0) % 255).toNat 0
def refTab (pow log : List Int) : List Int := (List.range 256).map fun i => affS (refInv pow log i) 5
theorem refTab_len (pow log : List Int) : (refTab pow log).length = 256 := by simp [refTab]
theorem refTab_get (pow log : List Int) (j : Nat) (h : j < 256) : (refTab pow log).getD j 0 = affS (refInv pow log j) 5 := by
 rw [List.getD_eq_getElem?_getD, refTab, List.getElem?_map, List.getElem?_range h]; rfl
end Go.Proofs.YthdjgebbjogmiaaDoor
