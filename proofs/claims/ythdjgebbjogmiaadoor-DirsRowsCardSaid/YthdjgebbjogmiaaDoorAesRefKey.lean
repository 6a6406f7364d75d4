/- aumbryref01.expand, walked. -/
import Derived.Test.YthdjgebbjogmiaaDoorJoin14
import Derived.LoopIn
import Derived.Deep.RegionHeld3
import Derived.Deep.DeepCutAuto
set_option linter.unusedVariables false
set_option linter.unusedSimpArgs false
namespace Go.Proofs.YthdjgebbjogmiaaDoor
open Go Go.RowKit

end Go.Proofs.YthdjgebbjogmiaaDoor
