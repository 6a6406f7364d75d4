/-
  DERIVED. GIVEN WITH THE SEED: THE CARDS: each row of YthdjgebbjogmiaaGreatDoorRows.lean that lists a variable, with what it lists TIED to the program's text (the seventh form; the later family's looks); each row that meets fmt, with fmt's text TOLD by the authors' own Lean function (tested against real Go, not proved from fmt's source: count such statements apart). THE CARD IS WHAT COUNTS. Prove the row's statement (the work); the ties are given (YthdjgebbjogmiaaGreatDoorTie.lean); close each card by the builder's one call (the guide's Derived/Test/ToyasCard.lean, 'card_holds'). Laid BY PROGRAM, IN A SANDBOX (cutbox-door.mjs). By AI agents, Wed Nov 11 2026. No macro, syntax, notation, axiom, sorry.
-/
import Derived.Test.YthdjgebbjogmiaaGreatDoorRows
import GoSem.ClaimSeven
namespace Go.Proofs.YthdjgebbjogmiaaGreatDoor
namespace Rows

/-- THE TIED CARD OF 'aumbrylaw23.DirsUnpacks'. -/
def dirsUnpacksCard : Claim7 := { stood := { row := dirsUnpacksRow, standIns := [], harness := (true, "ec6141cf937987f396af3db4ed8b9f24557e81000f5dfe8fc51db11d6d8c2b32"), looks := false }, kinds := [], alts := [], laidByText := true, laidKinds := [.data, .data, .data], laidTests := true, laidLooks := .later }
def DirsUnpacksCardSaid : Prop := Claim7.holds Tryz.pinned (.plain (OpenSpec.ofChange dirsUnpacksSpec)) dirsUnpacksCard

/-- THE SECOND FORM's CARD OF 'aumbrylaw23.DirsUnpacks'. -/
def dirsUnpacksUptoCard : Claim7 := { stood := { row := dirsUnpacksUptoRow, standIns := [], harness := (true, "ec6141cf937987f396af3db4ed8b9f24557e81000f5dfe8fc51db11d6d8c2b32"), looks := false }, kinds := [], alts := [], laidByText := true, laidKinds := [.data, .data, .data], laidTests := true, laidLooks := .later }
def DirsUnpacksUptoCardSaid : Prop := Claim7.holds Tryz.pinned (.plain (OpenSpec.upto dirsUnpacksSpec)) dirsUnpacksUptoCard
end Rows
end Go.Proofs.YthdjgebbjogmiaaGreatDoor
