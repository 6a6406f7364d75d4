/- Rows with their lengths: written, and taken again: plain laws. -/
import Derived.Test.YthdjgebbjogmiaaDoorJoin4
set_option linter.unusedVariables false
set_option linter.unusedSimpArgs false
namespace Go.Proofs.YthdjgebbjogmiaaDoor
open Go Go.RowKit

def isDg (c : Int) : Prop := 48 ≤ c ∧ c ≤ 57
instance (c : Int) : Decidable (isDg c) := inferInstanceAs (Decidable (_ ∧ _))
def netsF (l : List (List Int)) : List Int := (l.map netF).flatten
end Go.Proofs.YthdjgebbjogmiaaDoor
