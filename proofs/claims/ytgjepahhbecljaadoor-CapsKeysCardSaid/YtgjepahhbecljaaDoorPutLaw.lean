/- A number as so many bytes: the plain law. -/
import Derived.Test.YtgjepahhbecljaaDoorCells
namespace Go.Proofs.YtgjepahhbecljaaDoor
open Go Go.RowKit

def putN (N W : Nat) : List Int := (List.range W).map fun j => ((N / 256 ^ (W - 1 - j) % 256 : Nat) : Int)
def wid (width : Int) : Nat := (min (max width 0) 8).toNat
def putF (n width : Int) : List Int := putN (max 0 n).toNat (wid width)
theorem putN_len (N W : Nat) : (putN N W).length = W := by simp [putN]
theorem putN_get (N W j : Nat) (hj : j < W) : (putN N W).getD j 0 = ((N / 256 ^ (W - 1 - j) % 256 : Nat) : Int) := by
  rw [List.getD_eq_getElem?_getD, List.getElem?_eq_getElem (by rw [putN_len]; exact hj)]
  simp [putN]
theorem putN_bytes (N W : Nat) : Bytes (putN N W) := fun x hx => by
  obtain ⟨j, _, rfl⟩ := List.mem_map.1 hx
  have := Nat.mod_lt (N / 256 ^ (W - 1 - j)) (show 0 < 256 by omega)
  omega
theorem wid_le (width : Int) : wid width ≤ 8 := by unfold wid; omega
theorem putF_bytes (n width : Int) : Bytes (putF n width) := putN_bytes _ _
end Go.Proofs.YtgjepahhbecljaaDoor
