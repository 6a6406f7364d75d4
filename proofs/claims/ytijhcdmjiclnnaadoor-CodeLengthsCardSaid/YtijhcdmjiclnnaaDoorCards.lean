/-
  DERIVED. GIVEN WITH THE SEED: THE CARDS: each row of YtijhcdmjiclnnaaDoorRows.lean that lists a variable, with what it lists TIED to the program's text (the seventh form; the later family's looks); each row that meets fmt, with fmt's text TOLD by the authors' own Lean function (tested against real Go, not proved from fmt's source: count such statements apart). THE CARD IS WHAT COUNTS. Prove the row's statement (the work); the ties are given (YtijhcdmjiclnnaaDoorTie.lean); close each card by the builder's one call (the guide's Derived/Test/ToyasCard.lean, 'card_holds'). Laid BY PROGRAM, IN A SANDBOX (cutbox-door.mjs). By AI agents, Wed Nov 11 2026. No macro, syntax, notation, axiom, sorry.
-/
import Derived.Test.YtijhcdmjiclnnaaDoorRows
import GoSem.ClaimSeven
namespace Go.Proofs.YtijhcdmjiclnnaaDoor
namespace Rows

/-- THE TIED CARD OF 'aumbrylaw01.CodeUnlike'. -/
def codeUnlikeCard : Claim7 := { stood := { row := codeUnlikeRow, standIns := [], harness := (true, "336342bdbef55c56926c6334b4487791322ef54b4755d42607b5c8a152aa964c"), looks := false }, kinds := [], alts := [], laidByText := true, laidKinds := [.data, .data, .data], laidTests := true, laidLooks := .later }
def CodeUnlikeCardSaid : Prop := Claim7.holds Tryd.pinned (.plain (OpenSpec.ofChange codeUnlikeSpec)) codeUnlikeCard

/-- THE TIED CARD OF 'aumbrylaw01.CodeNets'. -/
def codeNetsCard : Claim7 := { stood := { row := codeNetsRow, standIns := [], harness := (true, "336342bdbef55c56926c6334b4487791322ef54b4755d42607b5c8a152aa964c"), looks := false }, kinds := [], alts := [], laidByText := true, laidKinds := [.data, .data, .data], laidTests := true, laidLooks := .later }
def CodeNetsCardSaid : Prop := Claim7.holds Tryd.pinned (.plain (OpenSpec.ofChange codeNetsSpec)) codeNetsCard

/-- THE TIED CARD OF 'aumbrylaw01.CodePuts'. -/
def codePutsCard : Claim7 := { stood := { row := codePutsRow, standIns := [], harness := (true, "336342bdbef55c56926c6334b4487791322ef54b4755d42607b5c8a152aa964c"), looks := false }, kinds := [], alts := [], laidByText := true, laidKinds := [.data, .data, .data], laidTests := true, laidLooks := .later }
def CodePutsCardSaid : Prop := Claim7.holds Tryd.pinned (.plain (OpenSpec.ofChange codePutsSpec)) codePutsCard

/-- THE TIED CARD OF 'aumbrylaw01.CodeGets'. -/
def codeGetsCard : Claim7 := { stood := { row := codeGetsRow, standIns := [], harness := (true, "336342bdbef55c56926c6334b4487791322ef54b4755d42607b5c8a152aa964c"), looks := false }, kinds := [], alts := [], laidByText := true, laidKinds := [.data, .data, .data], laidTests := true, laidLooks := .later }
def CodeGetsCardSaid : Prop := Claim7.holds Tryd.pinned (.plain (OpenSpec.ofChange codeGetsSpec)) codeGetsCard

/-- THE TIED CARD OF 'aumbrylaw01.CodeBack'. -/
def codeBackCard : Claim7 := { stood := { row := codeBackRow, standIns := [], harness := (true, "336342bdbef55c56926c6334b4487791322ef54b4755d42607b5c8a152aa964c"), looks := false }, kinds := [], alts := [], laidByText := true, laidKinds := [.data, .data, .data], laidTests := true, laidLooks := .later }
def CodeBackCardSaid : Prop := Claim7.holds Tryd.pinned (.plain (OpenSpec.ofChange codeBackSpec)) codeBackCard

/-- THE TIED CARD OF 'aumbrylaw01.CodeLengths'. -/
def codeLengthsCard : Claim7 := { stood := { row := codeLengthsRow, standIns := [], harness := (true, "336342bdbef55c56926c6334b4487791322ef54b4755d42607b5c8a152aa964c"), looks := false }, kinds := [], alts := [], laidByText := true, laidKinds := [.data, .data, .data], laidTests := true, laidLooks := .later }
def CodeLengthsCardSaid : Prop := Claim7.holds Tryd.pinned (.plain (OpenSpec.ofChange codeLengthsSpec)) codeLengthsCard

/-- THE TIED CARD OF 'aumbrylaw01.CodeBases'. -/
def codeBasesCard : Claim7 := { stood := { row := codeBasesRow, standIns := [], harness := (true, "336342bdbef55c56926c6334b4487791322ef54b4755d42607b5c8a152aa964c"), looks := false }, kinds := [], alts := [], laidByText := true, laidKinds := [.data, .data, .data], laidTests := true, laidLooks := .later }
def CodeBasesCardSaid : Prop := Claim7.holds Tryd.pinned (.plain (OpenSpec.ofChange codeBasesSpec)) codeBasesCard

/-- THE TIED CARD OF 'aumbrylaw01.CodeLetters'. -/
def codeLettersCard : Claim7 := { stood := { row := codeLettersRow, standIns := [], harness := (true, "336342bdbef55c56926c6334b4487791322ef54b4755d42607b5c8a152aa964c"), looks := false }, kinds := [], alts := [], laidByText := true, laidKinds := [.data, .data, .data], laidTests := true, laidLooks := .later }
def CodeLettersCardSaid : Prop := Claim7.holds Tryd.pinned (.plain (OpenSpec.ofChange codeLettersSpec)) codeLettersCard

/-- THE TIED CARD OF 'aumbrylaw01.CodeTakes'. -/
def codeTakesCard : Claim7 := { stood := { row := codeTakesRow, standIns := [], harness := (true, "336342bdbef55c56926c6334b4487791322ef54b4755d42607b5c8a152aa964c"), looks := false }, kinds := [], alts := [], laidByText := true, laidKinds := [.data, .data, .data], laidTests := true, laidLooks := .later }
def CodeTakesCardSaid : Prop := Claim7.holds Tryd.pinned (.plain (OpenSpec.ofChange codeTakesSpec)) codeTakesCard

/-- THE TIED CARD OF 'aumbrylaw01.CodeRows'. -/
def codeRowsCard : Claim7 := { stood := { row := codeRowsRow, standIns := [], harness := (true, "336342bdbef55c56926c6334b4487791322ef54b4755d42607b5c8a152aa964c"), looks := false }, kinds := [], alts := [], laidByText := true, laidKinds := [.data, .data, .data], laidTests := true, laidLooks := .later }
def CodeRowsCardSaid : Prop := Claim7.holds Tryd.pinned (.plain (OpenSpec.ofChange codeRowsSpec)) codeRowsCard

/-- THE SECOND FORM's CARD OF 'aumbrylaw01.CodeUnlike'. -/
def codeUnlikeUptoCard : Claim7 := { stood := { row := codeUnlikeUptoRow, standIns := [], harness := (true, "336342bdbef55c56926c6334b4487791322ef54b4755d42607b5c8a152aa964c"), looks := false }, kinds := [], alts := [], laidByText := true, laidKinds := [.data, .data, .data], laidTests := true, laidLooks := .later }
def CodeUnlikeUptoCardSaid : Prop := Claim7.holds Tryd.pinned (.plain (OpenSpec.upto codeUnlikeSpec)) codeUnlikeUptoCard

/-- THE SECOND FORM's CARD OF 'aumbrylaw01.CodeNets'. -/
def codeNetsUptoCard : Claim7 := { stood := { row := codeNetsUptoRow, standIns := [], harness := (true, "336342bdbef55c56926c6334b4487791322ef54b4755d42607b5c8a152aa964c"), looks := false }, kinds := [], alts := [], laidByText := true, laidKinds := [.data, .data, .data], laidTests := true, laidLooks := .later }
def CodeNetsUptoCardSaid : Prop := Claim7.holds Tryd.pinned (.plain (OpenSpec.upto codeNetsSpec)) codeNetsUptoCard

/-- THE SECOND FORM's CARD OF 'aumbrylaw01.CodePuts'. -/
def codePutsUptoCard : Claim7 := { stood := { row := codePutsUptoRow, standIns := [], harness := (true, "336342bdbef55c56926c6334b4487791322ef54b4755d42607b5c8a152aa964c"), looks := false }, kinds := [], alts := [], laidByText := true, laidKinds := [.data, .data, .data], laidTests := true, laidLooks := .later }
def CodePutsUptoCardSaid : Prop := Claim7.holds Tryd.pinned (.plain (OpenSpec.upto codePutsSpec)) codePutsUptoCard

/-- THE SECOND FORM's CARD OF 'aumbrylaw01.CodeGets'. -/
def codeGetsUptoCard : Claim7 := { stood := { row := codeGetsUptoRow, standIns := [], harness := (true, "336342bdbef55c56926c6334b4487791322ef54b4755d42607b5c8a152aa964c"), looks := false }, kinds := [], alts := [], laidByText := true, laidKinds := [.data, .data, .data], laidTests := true, laidLooks := .later }
def CodeGetsUptoCardSaid : Prop := Claim7.holds Tryd.pinned (.plain (OpenSpec.upto codeGetsSpec)) codeGetsUptoCard

/-- THE SECOND FORM's CARD OF 'aumbrylaw01.CodeBack'. -/
def codeBackUptoCard : Claim7 := { stood := { row := codeBackUptoRow, standIns := [], harness := (true, "336342bdbef55c56926c6334b4487791322ef54b4755d42607b5c8a152aa964c"), looks := false }, kinds := [], alts := [], laidByText := true, laidKinds := [.data, .data, .data], laidTests := true, laidLooks := .later }
def CodeBackUptoCardSaid : Prop := Claim7.holds Tryd.pinned (.plain (OpenSpec.upto codeBackSpec)) codeBackUptoCard

/-- THE SECOND FORM's CARD OF 'aumbrylaw01.CodeLengths'. -/
def codeLengthsUptoCard : Claim7 := { stood := { row := codeLengthsUptoRow, standIns := [], harness := (true, "336342bdbef55c56926c6334b4487791322ef54b4755d42607b5c8a152aa964c"), looks := false }, kinds := [], alts := [], laidByText := true, laidKinds := [.data, .data, .data], laidTests := true, laidLooks := .later }
def CodeLengthsUptoCardSaid : Prop := Claim7.holds Tryd.pinned (.plain (OpenSpec.upto codeLengthsSpec)) codeLengthsUptoCard

/-- THE SECOND FORM's CARD OF 'aumbrylaw01.CodeBases'. -/
def codeBasesUptoCard : Claim7 := { stood := { row := codeBasesUptoRow, standIns := [], harness := (true, "336342bdbef55c56926c6334b4487791322ef54b4755d42607b5c8a152aa964c"), looks := false }, kinds := [], alts := [], laidByText := true, laidKinds := [.data, .data, .data], laidTests := true, laidLooks := .later }
def CodeBasesUptoCardSaid : Prop := Claim7.holds Tryd.pinned (.plain (OpenSpec.upto codeBasesSpec)) codeBasesUptoCard

/-- THE SECOND FORM's CARD OF 'aumbrylaw01.CodeLetters'. -/
def codeLettersUptoCard : Claim7 := { stood := { row := codeLettersUptoRow, standIns := [], harness := (true, "336342bdbef55c56926c6334b4487791322ef54b4755d42607b5c8a152aa964c"), looks := false }, kinds := [], alts := [], laidByText := true, laidKinds := [.data, .data, .data], laidTests := true, laidLooks := .later }
def CodeLettersUptoCardSaid : Prop := Claim7.holds Tryd.pinned (.plain (OpenSpec.upto codeLettersSpec)) codeLettersUptoCard

/-- THE SECOND FORM's CARD OF 'aumbrylaw01.CodeTakes'. -/
def codeTakesUptoCard : Claim7 := { stood := { row := codeTakesUptoRow, standIns := [], harness := (true, "336342bdbef55c56926c6334b4487791322ef54b4755d42607b5c8a152aa964c"), looks := false }, kinds := [], alts := [], laidByText := true, laidKinds := [.data, .data, .data], laidTests := true, laidLooks := .later }
def CodeTakesUptoCardSaid : Prop := Claim7.holds Tryd.pinned (.plain (OpenSpec.upto codeTakesSpec)) codeTakesUptoCard

/-- THE SECOND FORM's CARD OF 'aumbrylaw01.CodeRows'. -/
def codeRowsUptoCard : Claim7 := { stood := { row := codeRowsUptoRow, standIns := [], harness := (true, "336342bdbef55c56926c6334b4487791322ef54b4755d42607b5c8a152aa964c"), looks := false }, kinds := [], alts := [], laidByText := true, laidKinds := [.data, .data, .data], laidTests := true, laidLooks := .later }
def CodeRowsUptoCardSaid : Prop := Claim7.holds Tryd.pinned (.plain (OpenSpec.upto codeRowsSpec)) codeRowsUptoCard
end Rows
end Go.Proofs.YtijhcdmjiclnnaaDoor
