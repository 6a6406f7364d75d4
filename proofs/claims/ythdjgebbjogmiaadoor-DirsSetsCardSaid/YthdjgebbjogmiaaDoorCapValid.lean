/- Which capabilities may be, by the program and by the reference. No condition. -/
import Derived.Test.YthdjgebbjogmiaaDoorJoin7
set_option linter.unusedVariables false
set_option linter.unusedSimpArgs false
namespace Go.Proofs.YthdjgebbjogmiaaDoor
open Go Go.RowKit

theorem Valid_any (c : CapD) (lit : Value) (w : World) (hc : CapV c lit) :
    Calls Tryd.prog 40 #[capV c lit] w fun e w' => e = .returned (.bool (decide c.Valid)) ∧ Below w.heap.size w w' := by
  by_cases h3 : c.kind = 3
  · exact Valid_lit c lit w hc h3
  · by_cases h1 : c.kind = 1 ∨ c.kind = 2
    · exact Valid_file c lit w hc h1
    · by_cases h4 : c.kind < 1 ∨ 9 < c.kind
      · exact Valid_none c lit w hc h4
      · exact Valid_slot c lit w hc (by omega)
theorem Valid_ref (c : CapD) (lit : Value) (w : World) (hc : CapV c lit) :
    Calls Tryd.prog 34 #[capV c lit] w fun e w' => e = .returned (.bool (decide c.Valid)) ∧ Below w.heap.size w w' := by
  by_cases h3 : c.kind = 3
  · exact Valid_ref_lit c lit w hc h3
  · by_cases h1 : c.kind = 1 ∨ c.kind = 2
    · exact Valid_ref_file c lit w hc h1
    · exact Valid_ref_slot c lit w hc h1 h3
end Go.Proofs.YthdjgebbjogmiaaDoor
