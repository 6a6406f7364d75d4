/- The two tables are one; all its entries are bytes; no two agree. -/
import Derived.Test.YtoicohcomjnnfaaAesRef
namespace Go.Proofs.Ytoicohcomjnnfaa
open Go Go.RowKit

theorem tab_bytes : byteL boxTab := by
  refine ⟨boxTab_len, ?_⟩
  have : (boxTab.all fun u => decide (0 ≤ u) && decide (u < 256)) = true := by decide +kernel
  intro u hu
  have h := List.all_eq_true.1 this u hu
  simpa using h
theorem tab_eq : refTab (refS 255).2.1 (refS 255).2.2 = boxTab := by decide +kernel
theorem tab_inj : boxTab.Nodup := by decide +kernel
end Go.Proofs.Ytoicohcomjnnfaa
