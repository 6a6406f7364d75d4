/-
  DERIVED. GIVEN WITH THE SEED: THE CARDS: each row of YthdjgebbjogmiaaDoorRows.lean that lists a variable, with what it lists TIED to the program's text (the seventh form; the later family's looks); each row that meets fmt, with fmt's text TOLD by the authors' own Lean function (tested against real Go, not proved from fmt's source: count such statements apart). THE CARD IS WHAT COUNTS. Prove the row's statement (the work); the ties are given (YthdjgebbjogmiaaDoorTie.lean); close each card by the builder's one call (the guide's Derived/Test/ToyasCard.lean, 'card_holds'). Laid BY PROGRAM, IN A SANDBOX (cutbox-door.mjs). By AI agents, Wed Nov 11 2026. No macro, syntax, notation, axiom, sorry.
-/
import Derived.Test.YthdjgebbjogmiaaDoorRows
import GoSem.ClaimSeven
namespace Go.Proofs.YthdjgebbjogmiaaDoor
namespace Rows

/-- THE TIED CARD OF 'aumbrylaw23.DirsPacks'. -/
def dirsPacksCard : Claim7 := { stood := { row := dirsPacksRow, standIns := [], harness := (true, "640d396a88406d37719e243a44b4b44e2716f23de4c2f6f4df5b0a86d1afc652"), looks := false }, kinds := [], alts := [], laidByText := true, laidKinds := [.data, .data, .data], laidTests := true, laidLooks := .later }
def DirsPacksCardSaid : Prop := Claim7.holds Tryd.pinned (.plain (OpenSpec.ofChange dirsPacksSpec)) dirsPacksCard

/-- THE TIED CARD OF 'aumbrylaw23.DirsLong'. -/
def dirsLongCard : Claim7 := { stood := { row := dirsLongRow, standIns := [], harness := (true, "640d396a88406d37719e243a44b4b44e2716f23de4c2f6f4df5b0a86d1afc652"), looks := false }, kinds := [], alts := [], laidByText := true, laidKinds := [.data, .data, .data], laidTests := true, laidLooks := .later }
def DirsLongCardSaid : Prop := Claim7.holds Tryd.pinned (.plain (OpenSpec.ofChange dirsLongSpec)) dirsLongCard

/-- THE TIED CARD OF 'aumbrylaw23.DirsSets'. -/
def dirsSetsCard : Claim7 := { stood := { row := dirsSetsRow, standIns := [], harness := (true, "640d396a88406d37719e243a44b4b44e2716f23de4c2f6f4df5b0a86d1afc652"), looks := false }, kinds := [], alts := [], laidByText := true, laidKinds := [.data, .data, .data], laidTests := true, laidLooks := .later }
def DirsSetsCardSaid : Prop := Claim7.holds Tryd.pinned (.plain (OpenSpec.ofChange dirsSetsSpec)) dirsSetsCard

/-- THE TIED CARD OF 'aumbrylaw23.DirsRows'. -/
def dirsRowsCard : Claim7 := { stood := { row := dirsRowsRow, standIns := [], harness := (true, "640d396a88406d37719e243a44b4b44e2716f23de4c2f6f4df5b0a86d1afc652"), looks := false }, kinds := [], alts := [], laidByText := true, laidKinds := [.data, .data, .data], laidTests := true, laidLooks := .later }
def DirsRowsCardSaid : Prop := Claim7.holds Tryd.pinned (.plain (OpenSpec.ofChange dirsRowsSpec)) dirsRowsCard

/-- THE TIED CARD OF 'aumbrylaw23.DirsTurned'. -/
def dirsTurnedCard : Claim7 := { stood := { row := dirsTurnedRow, standIns := [], harness := (true, "640d396a88406d37719e243a44b4b44e2716f23de4c2f6f4df5b0a86d1afc652"), looks := false }, kinds := [], alts := [], laidByText := true, laidKinds := [.data, .data, .data], laidTests := true, laidLooks := .later }
def DirsTurnedCardSaid : Prop := Claim7.holds Tryd.pinned (.plain (OpenSpec.ofChange dirsTurnedSpec)) dirsTurnedCard

/-- THE TIED CARD OF 'aumbrylaw23.DirsBack'. -/
def dirsBackCard : Claim7 := { stood := { row := dirsBackRow, standIns := [], harness := (true, "640d396a88406d37719e243a44b4b44e2716f23de4c2f6f4df5b0a86d1afc652"), looks := false }, kinds := [], alts := [], laidByText := true, laidKinds := [.data, .data, .data], laidTests := true, laidLooks := .later }
def DirsBackCardSaid : Prop := Claim7.holds Tryd.pinned (.plain (OpenSpec.ofChange dirsBackSpec)) dirsBackCard

/-- THE SECOND FORM's CARD OF 'aumbrylaw23.DirsPacks'. -/
def dirsPacksUptoCard : Claim7 := { stood := { row := dirsPacksUptoRow, standIns := [], harness := (true, "640d396a88406d37719e243a44b4b44e2716f23de4c2f6f4df5b0a86d1afc652"), looks := false }, kinds := [], alts := [], laidByText := true, laidKinds := [.data, .data, .data], laidTests := true, laidLooks := .later }
def DirsPacksUptoCardSaid : Prop := Claim7.holds Tryd.pinned (.plain (OpenSpec.upto dirsPacksSpec)) dirsPacksUptoCard

/-- THE SECOND FORM's CARD OF 'aumbrylaw23.DirsLong'. -/
def dirsLongUptoCard : Claim7 := { stood := { row := dirsLongUptoRow, standIns := [], harness := (true, "640d396a88406d37719e243a44b4b44e2716f23de4c2f6f4df5b0a86d1afc652"), looks := false }, kinds := [], alts := [], laidByText := true, laidKinds := [.data, .data, .data], laidTests := true, laidLooks := .later }
def DirsLongUptoCardSaid : Prop := Claim7.holds Tryd.pinned (.plain (OpenSpec.upto dirsLongSpec)) dirsLongUptoCard

/-- THE SECOND FORM's CARD OF 'aumbrylaw23.DirsSets'. -/
def dirsSetsUptoCard : Claim7 := { stood := { row := dirsSetsUptoRow, standIns := [], harness := (true, "640d396a88406d37719e243a44b4b44e2716f23de4c2f6f4df5b0a86d1afc652"), looks := false }, kinds := [], alts := [], laidByText := true, laidKinds := [.data, .data, .data], laidTests := true, laidLooks := .later }
def DirsSetsUptoCardSaid : Prop := Claim7.holds Tryd.pinned (.plain (OpenSpec.upto dirsSetsSpec)) dirsSetsUptoCard

/-- THE SECOND FORM's CARD OF 'aumbrylaw23.DirsRows'. -/
def dirsRowsUptoCard : Claim7 := { stood := { row := dirsRowsUptoRow, standIns := [], harness := (true, "640d396a88406d37719e243a44b4b44e2716f23de4c2f6f4df5b0a86d1afc652"), looks := false }, kinds := [], alts := [], laidByText := true, laidKinds := [.data, .data, .data], laidTests := true, laidLooks := .later }
def DirsRowsUptoCardSaid : Prop := Claim7.holds Tryd.pinned (.plain (OpenSpec.upto dirsRowsSpec)) dirsRowsUptoCard

/-- THE SECOND FORM's CARD OF 'aumbrylaw23.DirsTurned'. -/
def dirsTurnedUptoCard : Claim7 := { stood := { row := dirsTurnedUptoRow, standIns := [], harness := (true, "640d396a88406d37719e243a44b4b44e2716f23de4c2f6f4df5b0a86d1afc652"), looks := false }, kinds := [], alts := [], laidByText := true, laidKinds := [.data, .data, .data], laidTests := true, laidLooks := .later }
def DirsTurnedUptoCardSaid : Prop := Claim7.holds Tryd.pinned (.plain (OpenSpec.upto dirsTurnedSpec)) dirsTurnedUptoCard

/-- THE SECOND FORM's CARD OF 'aumbrylaw23.DirsBack'. -/
def dirsBackUptoCard : Claim7 := { stood := { row := dirsBackUptoRow, standIns := [], harness := (true, "640d396a88406d37719e243a44b4b44e2716f23de4c2f6f4df5b0a86d1afc652"), looks := false }, kinds := [], alts := [], laidByText := true, laidKinds := [.data, .data, .data], laidTests := true, laidLooks := .later }
def DirsBackUptoCardSaid : Prop := Claim7.holds Tryd.pinned (.plain (OpenSpec.upto dirsBackSpec)) dirsBackUptoCard
end Rows
end Go.Proofs.YthdjgebbjogmiaaDoor
