/- The library's listed variables: the list is met in the heap that the door's own run leaves, and it gives the table of powers of ten. Condition: the rows' own list. -/
import Derived.Test.YthdjgebbjogmiaaDoorTie
import Derived.Test.YthdjgebbjogmiaaDoorCards
import Derived.Test.YthdjgebbjogmiaaDoorJoin3
import Derived.Test.YthdjgebbjogmiaaDoorJoin6
import Derived.LaidMore
import Derived.SevenTiedAt
import Derived.Stop.Joined
import Derived.Lib.LaidTab
import Derived.Stop.LaidErr
set_option linter.unusedVariables false
set_option linter.unusedSimpArgs false
namespace Go.Proofs.YthdjgebbjogmiaaDoor
open Go Go.RowKit Go.ChangeShapes Go.WideShapes Go.ChangeAt

def laidD : List (String × DataW Unit) := [("math/bits.deBruijn32tab", Rows.laid_math_bits_deBruijn32tab), ("math/bits.deBruijn64tab", Rows.laid_math_bits_deBruijn64tab), ("internal/strconv.uint64pow10", Rows.laid_internal_strconv_uint64pow10)]
/-- The steps of the door's own run. -/
def doorSteps : Nat := 24
theorem door_met (os : Os) (args : Array Value) : laidMetH Tryd.prog laidD ((World.doorLaid Tryd.prog doorSteps os).forCall (fun _ _ => 0) ⟨#[], args, []⟩).memory :=
  laidMetH_of_parts3 (fuel := 8) (laidMet_of_run' 8 (by kernel_rfl) (by kernel_rfl)) (by kernel_rfl) (by kernel_rfl)
theorem tyPow : (Tryd.prog.globals[(0 : Nat)]?).map (·.type) = some 131 := by kernel_rfl
theorem tab_of {W : World} (h : laidMetH Tryd.prog laidD W) : Tab W W.heap.size := by
  rw [MakeChecks.laidMetH_plain _ _ _ (by kernel_rfl)] at h
  have ht : Lib.TabIs Tryd.prog W "internal/strconv.uint64pow10" .u64 Lib.pow10Tab := Lib.tabIs_of_head (n := 20) (rest := []) gPow tyPow Tryd.underlying131 Tryd.underlying119 (by kernel_rfl) (by kernel_rfl) (laidMet.tail (laidMet.tail h))
  refine ⟨?_, ht⟩
  unfold Lib.TabIs World.var? at ht
  rw [gPow] at ht
  simp only [Option.bind_some] at ht
  rcases Nat.lt_or_ge (0 : Nat) W.heap.size with h' | h'
  · exact h'
  · simp [Array.getElem?_eq_none h'] at ht
end Go.Proofs.YthdjgebbjogmiaaDoor
