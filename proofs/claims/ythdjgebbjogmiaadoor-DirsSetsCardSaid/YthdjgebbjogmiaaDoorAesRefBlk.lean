/- aumbryref01.block, walked. -/
import Derived.Test.YthdjgebbjogmiaaDoorJoin14
import Derived.Test.YthdjgebbjogmiaaDoorJoin1
import Derived.LoopIn
import Derived.Deep.RegionHeld3
import Derived.Deep.DeepCutAuto
import Derived.Deep.CutRange
import Derived.StillTailTactics
set_option linter.unusedVariables false
set_option linter.unusedSimpArgs false
namespace Go.Proofs.YthdjgebbjogmiaaDoor
open Go Go.RowKit

end Go.Proofs.YthdjgebbjogmiaaDoor
