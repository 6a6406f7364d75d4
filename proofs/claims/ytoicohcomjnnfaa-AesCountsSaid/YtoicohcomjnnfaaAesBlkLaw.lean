/- A block's rounds: the plain law. -/
import Derived.Test.YtoicohcomjnnfaaAesKeyLaw
namespace Go.Proofs.Ytoicohcomjnnfaa
open Go Go.RowKit

def subAt (T a : List Int) (j : Nat) : Int := T.getD (a.getD ((j + 4 * (j % 4)) % 16) 0).toNat 0
def subF (T a : List Int) : List Int := (List.range 16).map (subAt T a)
def midF (T a : List Int) (r : Nat) : List Int := if r < 10 then columnsF (subF T a) else subF T a
def blockR (T ks inp : List Int) : Nat → List Int
  | 0 => xorF inp (rowAt ks 0)
  | r + 1 => xorF (midF T (blockR T ks inp r) (r + 1)) (rowAt ks (r + 1))
def blockF (T ks inp : List Int) : List Int := blockR T ks inp 10

theorem subF_len (T a : List Int) : (subF T a).length = 16 := by simp [subF]
theorem subF_get (T a : List Int) (j : Nat) (hj : j < 16) : (subF T a).getD j 0 = subAt T a j := by
  rw [getD_el _ _ (by rw [subF_len]; exact hj)]
  simp [subF]
theorem subF_bytes {T : List Int} (h : Bytes T) (a : List Int) : Bytes (subF T a) := fun x hx => by
  obtain ⟨j, _, rfl⟩ := List.mem_map.1 hx
  exact h.getD _
theorem xorF_bytes {a b : List Int} (ha : a.length = 16) (hb : b.length = 16) (h : Bytes a) (h' : Bytes b) : Bytes (xorF a b) := fun x hx => by
  obtain ⟨j, hj, rfl⟩ := List.getElem_of_mem hx
  rw [xorF_len a b ha hb] at hj
  rw [← getD_el _ _ (by rw [xorF_len a b ha hb]; exact hj), xorF_get a b j (by omega) (by omega)]
  exact x8_byte (h.getD _) (h'.getD _)
theorem midF_len (T a : List Int) (r : Nat) : (midF T a r).length = 16 := by
  unfold midF; split
  · exact columnsF_len _
  · exact subF_len _ _
theorem midF_bytes {T : List Int} (h : Bytes T) (a : List Int) (r : Nat) : Bytes (midF T a r) := by
  unfold midF; split
  · exact columnsF_bytes (subF_bytes h a)
  · exact subF_bytes h a
theorem blockR_ok {T ks inp : List Int} (hT : Bytes T) (hk : ks.length = 176) (bk : Bytes ks) (hi : inp.length = 16) (bi : Bytes inp) (r : Nat) (hr : r ≤ 10) :
    (blockR T ks inp r).length = 16 ∧ Bytes (blockR T ks inp r) := by
  induction r with
  | zero => exact ⟨xorF_len _ _ hi (rowAt_len hk 0 (by omega)), xorF_bytes hi (rowAt_len hk 0 (by omega)) bi (rowAt_bytes bk 0)⟩
  | succ r ih => exact ⟨xorF_len _ _ (midF_len _ _ _) (rowAt_len hk (r + 1) (by omega)), xorF_bytes (midF_len _ _ _) (rowAt_len hk (r + 1) (by omega)) (midF_bytes hT _ _) (rowAt_bytes bk (r + 1))⟩
theorem blockF_len {T ks inp : List Int} (hT : Bytes T) (hk : ks.length = 176) (bk : Bytes ks) (hi : inp.length = 16) (bi : Bytes inp) : (blockF T ks inp).length = 16 := (blockR_ok hT hk bk hi bi 10 (by omega)).1
theorem blockF_bytes {T ks inp : List Int} (hT : Bytes T) (hk : ks.length = 176) (bk : Bytes ks) (hi : inp.length = 16) (bi : Bytes inp) : Bytes (blockF T ks inp) := (blockR_ok hT hk bk hi bi 10 (by omega)).2
end Go.Proofs.Ytoicohcomjnnfaa
