/- The stream: the plain law. -/
import Derived.Test.YtoicohcomjnnfaaAesBlkLaw
namespace Go.Proofs.Ytoicohcomjnnfaa
open Go Go.RowKit

/-- Place j of the counter's block. -/
def ctrAt (n j : Nat) : Int := ((n / 256 ^ (15 - j) % 256 : Nat) : Int)
def ctr (n : Nat) : List Int := (List.range 16).map (ctrAt n)
theorem ctr_len (n : Nat) : (ctr n).length = 16 := by simp [ctr]
theorem ctr_get (n j : Nat) (hj : j < 16) : (ctr n).getD j 0 = ctrAt n j := by
  rw [getD_el _ _ (by rw [ctr_len]; exact hj)]
  simp [ctr]
theorem ctrAt_byte (n j : Nat) : 0 ≤ ctrAt n j ∧ ctrAt n j < 256 := by
  unfold ctrAt
  have := Nat.mod_lt (n / 256 ^ (15 - j)) (show 0 < 256 by omega)
  omega
theorem ctr_bytes (n : Nat) : Bytes (ctr n) := fun x hx => by
  obtain ⟨j, _, rfl⟩ := List.mem_map.1 hx
  exact ctrAt_byte n j
/-- Where streams begin. -/
def atF (at_ : Int) : Nat := (max 0 (min at_ 1073741824)).toNat
theorem atF_le (a : Int) : atF a ≤ 1073741824 := by unfold atF; omega
/-- The stream's byte at place p. -/
def keyAt (T ks : List Int) (p : Nat) : Int := (blockF T ks (ctr (p / 16))).getD (p % 16) 0
def streamAt (T ks : List Int) (a : Nat) (b : List Int) (i : Nat) : Int := X8 (b.getD i 0) (keyAt T ks (a + i))
def streamF (T ks : List Int) (a : Nat) (b : List Int) : List Int := (List.range b.length).map (streamAt T ks a b)
theorem streamF_len (T ks : List Int) (a : Nat) (b : List Int) : (streamF T ks a b).length = b.length := by simp [streamF]
theorem streamF_get (T ks : List Int) (a : Nat) (b : List Int) (i : Nat) (hi : i < b.length) : (streamF T ks a b).getD i 0 = streamAt T ks a b i := by
  rw [getD_el _ _ (by rw [streamF_len]; exact hi)]
  simp [streamF]
theorem keyAt_byte {T ks : List Int} (hT : Bytes T) (hk : ks.length = 176) (bk : Bytes ks) (p : Nat) : 0 ≤ keyAt T ks p ∧ keyAt T ks p < 256 := (blockF_bytes hT hk bk (ctr_len _) (ctr_bytes _)).getD _
theorem streamF_bytes {T ks : List Int} (hT : Bytes T) (hk : ks.length = 176) (bk : Bytes ks) (a : Nat) {b : List Int} (hb : Bytes b) : Bytes (streamF T ks a b) := fun x hx => by
  obtain ⟨j, _, rfl⟩ := List.mem_map.1 hx
  exact x8_byte (hb.getD _) (keyAt_byte hT hk bk _)
end Go.Proofs.Ytoicohcomjnnfaa
