/- aes.box: the plain law of the table, and the rotations. -/
import Derived.Test.YtoicohcomjnnfaaAesSmall
import Derived.Test.YtoicohcomjnnfaaArrNew
import Derived.Deep.LoopGhost
namespace Go.Proofs.Ytoicohcomjnnfaa
open Go Go.RowKit

def rot1 (x : Int) : Int := bits .or .u8 (x * 2 % 256) (x / 128)
set_option maxHeartbeats 400000 in
theorem rot1_any (x : Int) (w : World) (h0 : 0 ≤ x) (h1 : x < 256) :
    Calls Try.prog 56 #[.int .u8 x, .int .i64 1] w fun e w' => e = .returned (.int .u8 (rot1 x)) ∧ w = w' := by
  have hk : bits BinOp.and IntKind.u64 1 7 = 1 := by decide
  go_enter Try.func56, Try.ntmps56
  go_wp2
  go_ret
  exact ⟨rfl, rfl⟩
def rot2 (x : Int) : Int := bits .or .u8 (x * 4 % 256) (x / 64)
set_option maxHeartbeats 400000 in
theorem rot2_any (x : Int) (w : World) (h0 : 0 ≤ x) (h1 : x < 256) :
    Calls Try.prog 56 #[.int .u8 x, .int .i64 2] w fun e w' => e = .returned (.int .u8 (rot2 x)) ∧ w = w' := by
  have hk : bits BinOp.and IntKind.u64 2 7 = 2 := by decide
  go_enter Try.func56, Try.ntmps56
  go_wp2
  go_ret
  exact ⟨rfl, rfl⟩
def rot3 (x : Int) : Int := bits .or .u8 (x * 8 % 256) (x / 32)
set_option maxHeartbeats 400000 in
theorem rot3_any (x : Int) (w : World) (h0 : 0 ≤ x) (h1 : x < 256) :
    Calls Try.prog 56 #[.int .u8 x, .int .i64 3] w fun e w' => e = .returned (.int .u8 (rot3 x)) ∧ w = w' := by
  have hk : bits BinOp.and IntKind.u64 3 7 = 3 := by decide
  go_enter Try.func56, Try.ntmps56
  go_wp2
  go_ret
  exact ⟨rfl, rfl⟩
def rot4 (x : Int) : Int := bits .or .u8 (x * 16 % 256) (x / 16)
set_option maxHeartbeats 400000 in
theorem rot4_any (x : Int) (w : World) (h0 : 0 ≤ x) (h1 : x < 256) :
    Calls Try.prog 56 #[.int .u8 x, .int .i64 4] w fun e w' => e = .returned (.int .u8 (rot4 x)) ∧ w = w' := by
  have hk : bits BinOp.and IntKind.u64 4 7 = 4 := by decide
  go_enter Try.func56, Try.ntmps56
  go_wp2
  go_ret
  exact ⟨rfl, rfl⟩

def boxP (p : Int) : Int := X8 p (tw p)
def boxQ1 (q : Int) : Int := X8 q (q * 2 % 256)
def boxQ2 (q : Int) : Int := X8 q (q * 4 % 256)
def boxQ3 (q : Int) : Int := X8 q (q * 16 % 256)
def boxQ4 (q : Int) : Int := if (bits .and .u8 q 128 != 0) = true then X8 q 9 else q
def boxQ (q : Int) : Int := boxQ4 (boxQ3 (boxQ2 (boxQ1 q)))
def boxX (q : Int) : Int := X8 (X8 (X8 (X8 (X8 q (rot1 q)) (rot2 q)) (rot3 q)) (rot4 q)) 99
def boxStep (s : Int × Int × List Int) : Int × Int × List Int :=
  let p := boxP s.1
  let q := boxQ s.2.1
  (p, q, s.2.2.set p.toNat (boxX q))
def boxS : Nat → Int × Int × List Int
  | 0 => (1, 1, List.replicate 256 0)
  | k + 1 => boxStep (boxS k)
theorem boxP_byte {p : Int} (h : 0 ≤ p ∧ p < 256) : 0 ≤ boxP p ∧ boxP p < 256 := x8_byte h (tw_byte h)
theorem boxQ4_byte {q : Int} (h : 0 ≤ q ∧ q < 256) : 0 ≤ boxQ4 q ∧ boxQ4 q < 256 := by
  unfold boxQ4; split
  · exact x8_byte h (by omega)
  · exact h
theorem boxQ_byte {q : Int} (h : 0 ≤ q ∧ q < 256) : 0 ≤ boxQ q ∧ boxQ q < 256 := by
  have h1 : 0 ≤ boxQ1 q ∧ boxQ1 q < 256 := x8_byte h (by omega)
  have h2 : 0 ≤ boxQ2 (boxQ1 q) ∧ boxQ2 (boxQ1 q) < 256 := x8_byte h1 (by omega)
  have h3 : 0 ≤ boxQ3 (boxQ2 (boxQ1 q)) ∧ boxQ3 (boxQ2 (boxQ1 q)) < 256 := x8_byte h2 (by omega)
  exact boxQ4_byte h3
theorem boxS_ok (k : Nat) : (0 ≤ (boxS k).1 ∧ (boxS k).1 < 256) ∧ (0 ≤ (boxS k).2.1 ∧ (boxS k).2.1 < 256) ∧ (boxS k).2.2.length = 256 := by
  induction k with
  | zero => exact ⟨by show (0:Int) ≤ 1 ∧ (1:Int) < 256; omega, by show (0:Int) ≤ 1 ∧ (1:Int) < 256; omega, by show (List.replicate 256 (0 : Int)).length = 256; rw [List.length_replicate]⟩
  | succ k ih => exact ⟨boxP_byte ih.1, boxQ_byte ih.2.1, by simpa [boxS, boxStep] using ih.2.2⟩
/-- From p on, n steps: not 1 till the last, then 1. -/
def boxEnds : Nat → Int → Bool
  | 0, p => p == 1
  | n + 1, p => p != 1 && boxEnds n (boxP p)
theorem box_ends : boxEnds 254 (boxP 1) = true := by decide +kernel
theorem boxEnds_at (n : Nat) : ∀ (p : Int) (k : Nat), boxEnds n p = true → k ≤ n → ((Nat.repeat boxP k p) == 1) = decide (k = n) := by
  induction n with
  | zero => intro p k h hk; obtain rfl : k = 0 := (by omega); show (p == 1) = decide (0 = 0); have h2 : (p == 1) = true := h; rw [h2]; rfl
  | succ n ih =>
    intro p k h hk
    simp only [boxEnds, Bool.and_eq_true] at h
    cases k with
    | zero =>
      have : (p == 1) = false := by simpa using h.1
      simp [Nat.repeat, this]
    | succ k =>
      have := ih (boxP p) k h.2 (by omega)
      have e : Nat.repeat boxP (k + 1) p = Nat.repeat boxP k (boxP p) := by
        clear this h ih
        induction k generalizing p with
        | zero => rfl
        | succ k ih => show boxP (Nat.repeat boxP (k + 1) p) = boxP (Nat.repeat boxP k (boxP p)); rw [ih p (by omega)]
      rw [e, this]
      simp
theorem boxS_fst (k : Nat) : (boxS k).1 = Nat.repeat boxP k 1 := by
  induction k with
  | zero => rfl
  | succ k ih => show boxP (boxS k).1 = boxP (Nat.repeat boxP k 1); rw [ih]
theorem box_last (k : Nat) (hk : k ≤ 254) : ((boxS (k + 1)).1 == 1) = decide (k = 254) := by
  have := boxEnds_at 254 (boxP 1) k box_ends hk
  rw [boxS_fst]
  have e : ∀ k p, Nat.repeat boxP (k + 1) p = Nat.repeat boxP k (boxP p) := by
    intro k
    induction k with
    | zero => intro p; rfl
    | succ k ih => intro p; show boxP (Nat.repeat boxP (k + 1) p) = boxP (Nat.repeat boxP k (boxP p)); rw [ih]
  rw [e, this]

def boxTab : List Int := (boxS 255).2.2.set 0 99
theorem boxTab_len : boxTab.length = 256 := by unfold boxTab; rw [List.length_set]; exact (boxS_ok 255).2.2

end Go.Proofs.Ytoicohcomjnnfaa
