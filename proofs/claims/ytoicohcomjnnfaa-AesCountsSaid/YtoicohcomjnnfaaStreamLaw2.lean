/- The stream: twice is itself, in pieces it is the whole. -/
import Derived.Test.YtoicohcomjnnfaaStreamLaw
namespace Go.Proofs.Ytoicohcomjnnfaa
open Go Go.RowKit

theorem x8_twice {a b : Int} (ha : 0 ≤ a ∧ a < 256) (hb : 0 ≤ b ∧ b < 256) : X8 (X8 a b) b = a := by
  obtain ⟨a, rfl⟩ := Int.eq_ofNat_of_zero_le ha.1
  obtain ⟨b, rfl⟩ := Int.eq_ofNat_of_zero_le hb.1
  have hx : a ^^^ b < 2 ^ 8 := Nat.xor_lt_two_pow (by omega) (by omega)
  rw [x8_nat a b (by omega) (by omega), x8_nat (a ^^^ b) b (by omega) (by omega), Nat.xor_assoc, Nat.xor_self, Nat.xor_zero]
theorem stream_twice {T ks : List Int} (hT : Bytes T) (hk : ks.length = 176) (bk : Bytes ks) (a : Nat) {b : List Int} (hb : Bytes b) : streamF T ks a (streamF T ks a b) = b :=
  ext_getD (by rw [streamF_len, streamF_len]) fun j hj => by
    rw [streamF_len, streamF_len] at hj
    rw [streamF_get _ _ _ _ _ (by rw [streamF_len]; exact hj), streamAt, streamF_get _ _ _ _ _ hj, streamAt]
    exact x8_twice (hb.getD _) (keyAt_byte hT hk bk _)
theorem stream_split (T ks : List Int) (a : Nat) (b : List Int) (n : Nat) (hn : n ≤ b.length) : streamF T ks a (b.take n) ++ streamF T ks (a + n) (b.drop n) = streamF T ks a b := by
  have hl1 : (b.take n).length = n := by rw [List.length_take]; omega
  have hl : (streamF T ks a (b.take n)).length = n := by rw [streamF_len, hl1]
  refine ext_getD (by rw [List.length_append, streamF_len, streamF_len, streamF_len, List.length_take, List.length_drop]; omega) fun j hj => ?_
  rw [List.length_append, hl, streamF_len, List.length_drop] at hj
  rw [streamF_get T ks a b j (by omega)]
  rcases Nat.lt_or_ge j n with h | h
  · rw [List.getD_eq_getElem?_getD, List.getElem?_append_left (by omega), ← List.getD_eq_getElem?_getD, streamF_get _ _ _ _ _ (by omega), streamAt, streamAt]
    congr 1
    rw [List.getD_eq_getElem?_getD, List.getElem?_take, if_pos h, List.getD_eq_getElem?_getD]
  · rw [List.getD_eq_getElem?_getD, List.getElem?_append_right (by omega), ← List.getD_eq_getElem?_getD, hl, streamF_get _ _ _ _ _ (by rw [List.length_drop]; omega), streamAt, streamAt, show a + n + (j - n) = a + j by omega]
    congr 1
    rw [List.getD_eq_getElem?_getD, List.getElem?_drop, show n + (j - n) = j by omega, List.getD_eq_getElem?_getD]
theorem atF_of (n : Nat) (h : n ≤ 1073741824) : atF (n : Int) = n := by unfold atF; omega
end Go.Proofs.Ytoicohcomjnnfaa
