/-
  DERIVED. GIVEN WITH THE SEED: THE CARDS: each row of YtfinfkodjkfibaaDoorRows.lean that lists a variable, with what it lists TIED to the program's text (the seventh form; the later family's looks); each row that meets fmt, with fmt's text TOLD by the authors' own Lean function (tested against real Go, not proved from fmt's source: count such statements apart). THE CARD IS WHAT COUNTS. Prove the row's statement (the work); the ties are given (YtfinfkodjkfibaaDoorTie.lean); close each card by the builder's one call (the guide's Derived/Test/ToyasCard.lean, 'card_holds'). Laid BY PROGRAM, IN A SANDBOX (cutbox-door.mjs). By AI agents, Wed Nov 11 2026. No macro, syntax, notation, axiom, sorry.
-/
import Derived.Test.YtfinfkodjkfibaaDoorRows
import GoSem.ClaimSeven
namespace Go.Proofs.YtfinfkodjkfibaaDoor
namespace Rows

/-- THE TIED CARD OF 'aumbrylaw17.MsgsSays'. -/
def msgsSaysCard : Claim7 := { stood := { row := msgsSaysRow, standIns := [], harness := (true, "d66d6ba09debe425ba488541ab14ec4219af40a98cfd785ae23ffa18be37ee6a"), looks := false }, kinds := [], alts := [], laidByText := true, laidKinds := [.data, .data, .data], laidTests := true, laidLooks := .later }
def MsgsSaysCardSaid : Prop := Claim7.holds Tryd.pinned (.plain (OpenSpec.ofChange msgsSaysSpec)) msgsSaysCard

/-- THE TIED CARD OF 'aumbrylaw17.MsgsLong'. -/
def msgsLongCard : Claim7 := { stood := { row := msgsLongRow, standIns := [], harness := (true, "d66d6ba09debe425ba488541ab14ec4219af40a98cfd785ae23ffa18be37ee6a"), looks := false }, kinds := [], alts := [], laidByText := true, laidKinds := [.data, .data, .data], laidTests := true, laidLooks := .later }
def MsgsLongCardSaid : Prop := Claim7.holds Tryd.pinned (.plain (OpenSpec.ofChange msgsLongSpec)) msgsLongCard

/-- THE TIED CARD OF 'aumbrylaw17.MsgsUnlike'. -/
def msgsUnlikeCard : Claim7 := { stood := { row := msgsUnlikeRow, standIns := [], harness := (true, "d66d6ba09debe425ba488541ab14ec4219af40a98cfd785ae23ffa18be37ee6a"), looks := false }, kinds := [], alts := [], laidByText := true, laidKinds := [.data, .data, .data], laidTests := true, laidLooks := .later }
def MsgsUnlikeCardSaid : Prop := Claim7.holds Tryd.pinned (.plain (OpenSpec.ofChange msgsUnlikeSpec)) msgsUnlikeCard

/-- THE TIED CARD OF 'aumbrylaw17.MsgsAsks'. -/
def msgsAsksCard : Claim7 := { stood := { row := msgsAsksRow, standIns := [], harness := (true, "d66d6ba09debe425ba488541ab14ec4219af40a98cfd785ae23ffa18be37ee6a"), looks := false }, kinds := [], alts := [], laidByText := true, laidKinds := [.data, .data, .data], laidTests := true, laidLooks := .later }
def MsgsAsksCardSaid : Prop := Claim7.holds Tryd.pinned (.plain (OpenSpec.ofChange msgsAsksSpec)) msgsAsksCard

/-- THE TIED CARD OF 'aumbrylaw17.MsgsBack'. -/
def msgsBackCard : Claim7 := { stood := { row := msgsBackRow, standIns := [], harness := (true, "d66d6ba09debe425ba488541ab14ec4219af40a98cfd785ae23ffa18be37ee6a"), looks := false }, kinds := [], alts := [], laidByText := true, laidKinds := [.data, .data, .data], laidTests := true, laidLooks := .later }
def MsgsBackCardSaid : Prop := Claim7.holds Tryd.pinned (.plain (OpenSpec.ofChange msgsBackSpec)) msgsBackCard

/-- THE SECOND FORM's CARD OF 'aumbrylaw17.MsgsSays'. -/
def msgsSaysUptoCard : Claim7 := { stood := { row := msgsSaysUptoRow, standIns := [], harness := (true, "d66d6ba09debe425ba488541ab14ec4219af40a98cfd785ae23ffa18be37ee6a"), looks := false }, kinds := [], alts := [], laidByText := true, laidKinds := [.data, .data, .data], laidTests := true, laidLooks := .later }
def MsgsSaysUptoCardSaid : Prop := Claim7.holds Tryd.pinned (.plain (OpenSpec.upto msgsSaysSpec)) msgsSaysUptoCard

/-- THE SECOND FORM's CARD OF 'aumbrylaw17.MsgsLong'. -/
def msgsLongUptoCard : Claim7 := { stood := { row := msgsLongUptoRow, standIns := [], harness := (true, "d66d6ba09debe425ba488541ab14ec4219af40a98cfd785ae23ffa18be37ee6a"), looks := false }, kinds := [], alts := [], laidByText := true, laidKinds := [.data, .data, .data], laidTests := true, laidLooks := .later }
def MsgsLongUptoCardSaid : Prop := Claim7.holds Tryd.pinned (.plain (OpenSpec.upto msgsLongSpec)) msgsLongUptoCard

/-- THE SECOND FORM's CARD OF 'aumbrylaw17.MsgsUnlike'. -/
def msgsUnlikeUptoCard : Claim7 := { stood := { row := msgsUnlikeUptoRow, standIns := [], harness := (true, "d66d6ba09debe425ba488541ab14ec4219af40a98cfd785ae23ffa18be37ee6a"), looks := false }, kinds := [], alts := [], laidByText := true, laidKinds := [.data, .data, .data], laidTests := true, laidLooks := .later }
def MsgsUnlikeUptoCardSaid : Prop := Claim7.holds Tryd.pinned (.plain (OpenSpec.upto msgsUnlikeSpec)) msgsUnlikeUptoCard

/-- THE SECOND FORM's CARD OF 'aumbrylaw17.MsgsAsks'. -/
def msgsAsksUptoCard : Claim7 := { stood := { row := msgsAsksUptoRow, standIns := [], harness := (true, "d66d6ba09debe425ba488541ab14ec4219af40a98cfd785ae23ffa18be37ee6a"), looks := false }, kinds := [], alts := [], laidByText := true, laidKinds := [.data, .data, .data], laidTests := true, laidLooks := .later }
def MsgsAsksUptoCardSaid : Prop := Claim7.holds Tryd.pinned (.plain (OpenSpec.upto msgsAsksSpec)) msgsAsksUptoCard

/-- THE SECOND FORM's CARD OF 'aumbrylaw17.MsgsBack'. -/
def msgsBackUptoCard : Claim7 := { stood := { row := msgsBackUptoRow, standIns := [], harness := (true, "d66d6ba09debe425ba488541ab14ec4219af40a98cfd785ae23ffa18be37ee6a"), looks := false }, kinds := [], alts := [], laidByText := true, laidKinds := [.data, .data, .data], laidTests := true, laidLooks := .later }
def MsgsBackUptoCardSaid : Prop := Claim7.holds Tryd.pinned (.plain (OpenSpec.upto msgsBackSpec)) msgsBackUptoCard
end Rows
end Go.Proofs.YtfinfkodjkfibaaDoor
