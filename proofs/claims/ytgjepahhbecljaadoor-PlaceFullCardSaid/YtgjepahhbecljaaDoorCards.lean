/-
  DERIVED. GIVEN WITH THE SEED: THE CARDS: each row of YtgjepahhbecljaaDoorRows.lean that lists a variable, with what it lists TIED to the program's text (the seventh form; the later family's looks); each row that meets fmt, with fmt's text TOLD by the authors' own Lean function (tested against real Go, not proved from fmt's source: count such statements apart). THE CARD IS WHAT COUNTS. Prove the row's statement (the work); the ties are given (YtgjepahhbecljaaDoorTie.lean); close each card by the builder's one call (the guide's Derived/Test/ToyasCard.lean, 'card_holds'). Laid BY PROGRAM, IN A SANDBOX (cutbox-door.mjs). By AI agents, Wed Nov 11 2026. No macro, syntax, notation, axiom, sorry.
-/
import Derived.Test.YtgjepahhbecljaaDoorRows
import GoSem.ClaimSeven
namespace Go.Proofs.YtgjepahhbecljaaDoor
namespace Rows

/-- THE TIED CARD OF 'aumbrylaw13.CapsPrints'. -/
def capsPrintsCard : Claim7 := { stood := { row := capsPrintsRow, standIns := [], harness := (true, "72854cdb59bd7d7e575b3036a14ff9131d0d617b8b18380d4bdd4877f06aff2f"), looks := true }, kinds := [], alts := [], laidByText := true, laidKinds := [.data, .data, .data], laidTests := true, laidLooks := .later }
def CapsPrintsCardSaid : Prop := Claim7.holds Tryd.pinned (.plain (OpenSpec.ofChange capsPrintsSpec)) capsPrintsCard

/-- THE TIED CARD OF 'aumbrylaw13.CapsUnlike'. -/
def capsUnlikeCard : Claim7 := { stood := { row := capsUnlikeRow, standIns := [], harness := (true, "72854cdb59bd7d7e575b3036a14ff9131d0d617b8b18380d4bdd4877f06aff2f"), looks := true }, kinds := [], alts := [], laidByText := true, laidKinds := [.data, .data, .data], laidTests := true, laidLooks := .later }
def CapsUnlikeCardSaid : Prop := Claim7.holds Tryd.pinned (.plain (OpenSpec.ofChange capsUnlikeSpec)) capsUnlikeCard

/-- THE TIED CARD OF 'aumbrylaw13.CapsValids'. -/
def capsValidsCard : Claim7 := { stood := { row := capsValidsRow, standIns := [], harness := (true, "72854cdb59bd7d7e575b3036a14ff9131d0d617b8b18380d4bdd4877f06aff2f"), looks := true }, kinds := [], alts := [], laidByText := true, laidKinds := [.data, .data, .data], laidTests := true, laidLooks := .later }
def CapsValidsCardSaid : Prop := Claim7.holds Tryd.pinned (.plain (OpenSpec.ofChange capsValidsSpec)) capsValidsCard

/-- THE TIED CARD OF 'aumbrylaw13.CapsParses'. -/
def capsParsesCard : Claim7 := { stood := { row := capsParsesRow, standIns := [], harness := (true, "72854cdb59bd7d7e575b3036a14ff9131d0d617b8b18380d4bdd4877f06aff2f"), looks := true }, kinds := [], alts := [], laidByText := true, laidKinds := [.data, .data, .data], laidTests := true, laidLooks := .later }
def CapsParsesCardSaid : Prop := Claim7.holds Tryd.pinned (.plain (OpenSpec.ofChange capsParsesSpec)) capsParsesCard

/-- THE TIED CARD OF 'aumbrylaw13.CapsBack'. -/
def capsBackCard : Claim7 := { stood := { row := capsBackRow, standIns := [], harness := (true, "72854cdb59bd7d7e575b3036a14ff9131d0d617b8b18380d4bdd4877f06aff2f"), looks := true }, kinds := [], alts := [], laidByText := true, laidKinds := [.data, .data, .data], laidTests := true, laidLooks := .later }
def CapsBackCardSaid : Prop := Claim7.holds Tryd.pinned (.plain (OpenSpec.ofChange capsBackSpec)) capsBackCard

/-- THE TIED CARD OF 'aumbrylaw13.CapsMore'. -/
def capsMoreCard : Claim7 := { stood := { row := capsMoreRow, standIns := [], harness := (true, "72854cdb59bd7d7e575b3036a14ff9131d0d617b8b18380d4bdd4877f06aff2f"), looks := true }, kinds := [], alts := [], laidByText := true, laidKinds := [.data, .data, .data], laidTests := true, laidLooks := .later }
def CapsMoreCardSaid : Prop := Claim7.holds Tryd.pinned (.plain (OpenSpec.ofChange capsMoreSpec)) capsMoreCard

/-- THE TIED CARD OF 'aumbrylaw13.CapsLess'. -/
def capsLessCard : Claim7 := { stood := { row := capsLessRow, standIns := [], harness := (true, "72854cdb59bd7d7e575b3036a14ff9131d0d617b8b18380d4bdd4877f06aff2f"), looks := true }, kinds := [], alts := [], laidByText := true, laidKinds := [.data, .data, .data], laidTests := true, laidLooks := .later }
def CapsLessCardSaid : Prop := Claim7.holds Tryd.pinned (.plain (OpenSpec.ofChange capsLessSpec)) capsLessCard

/-- THE TIED CARD OF 'aumbrylaw13.CapsDown'. -/
def capsDownCard : Claim7 := { stood := { row := capsDownRow, standIns := [], harness := (true, "72854cdb59bd7d7e575b3036a14ff9131d0d617b8b18380d4bdd4877f06aff2f"), looks := true }, kinds := [], alts := [], laidByText := true, laidKinds := [.data, .data, .data], laidTests := true, laidLooks := .later }
def CapsDownCardSaid : Prop := Claim7.holds Tryd.pinned (.plain (OpenSpec.ofChange capsDownSpec)) capsDownCard

/-- THE TIED CARD OF 'aumbrylaw13.CapsKeys'. -/
def capsKeysCard : Claim7 := { stood := { row := capsKeysRow, standIns := [], harness := (true, "72854cdb59bd7d7e575b3036a14ff9131d0d617b8b18380d4bdd4877f06aff2f"), looks := true }, kinds := [], alts := [], laidByText := true, laidKinds := [.data, .data, .data], laidTests := true, laidLooks := .later }
def CapsKeysCardSaid : Prop := Claim7.holds Tryd.pinned (.plain (OpenSpec.ofChange capsKeysSpec)) capsKeysCard

/-- THE TIED CARD OF 'aumbrylaw19.PlaceOrders'. -/
def placeOrdersCard : Claim7 := { stood := { row := placeOrdersRow, standIns := [], harness := (true, "72854cdb59bd7d7e575b3036a14ff9131d0d617b8b18380d4bdd4877f06aff2f"), looks := true }, kinds := [], alts := [], laidByText := true, laidKinds := [.data, .data, .data], laidTests := true, laidLooks := .later }
def PlaceOrdersCardSaid : Prop := Claim7.holds Tryd.pinned (.plain (OpenSpec.ofChange placeOrdersSpec)) placeOrdersCard

/-- THE TIED CARD OF 'aumbrylaw19.PlaceFull'. -/
def placeFullCard : Claim7 := { stood := { row := placeFullRow, standIns := [], harness := (true, "72854cdb59bd7d7e575b3036a14ff9131d0d617b8b18380d4bdd4877f06aff2f"), looks := true }, kinds := [], alts := [], laidByText := true, laidKinds := [.data, .data, .data], laidTests := true, laidLooks := .later }
def PlaceFullCardSaid : Prop := Claim7.holds Tryd.pinned (.plain (OpenSpec.ofChange placeFullSpec)) placeFullCard

/-- THE SECOND FORM's CARD OF 'aumbrylaw13.CapsPrints'. -/
def capsPrintsUptoCard : Claim7 := { stood := { row := capsPrintsUptoRow, standIns := [], harness := (true, "72854cdb59bd7d7e575b3036a14ff9131d0d617b8b18380d4bdd4877f06aff2f"), looks := true }, kinds := [], alts := [], laidByText := true, laidKinds := [.data, .data, .data], laidTests := true, laidLooks := .later }
def CapsPrintsUptoCardSaid : Prop := Claim7.holds Tryd.pinned (.plain (OpenSpec.upto capsPrintsSpec)) capsPrintsUptoCard

/-- THE SECOND FORM's CARD OF 'aumbrylaw13.CapsUnlike'. -/
def capsUnlikeUptoCard : Claim7 := { stood := { row := capsUnlikeUptoRow, standIns := [], harness := (true, "72854cdb59bd7d7e575b3036a14ff9131d0d617b8b18380d4bdd4877f06aff2f"), looks := true }, kinds := [], alts := [], laidByText := true, laidKinds := [.data, .data, .data], laidTests := true, laidLooks := .later }
def CapsUnlikeUptoCardSaid : Prop := Claim7.holds Tryd.pinned (.plain (OpenSpec.upto capsUnlikeSpec)) capsUnlikeUptoCard

/-- THE SECOND FORM's CARD OF 'aumbrylaw13.CapsValids'. -/
def capsValidsUptoCard : Claim7 := { stood := { row := capsValidsUptoRow, standIns := [], harness := (true, "72854cdb59bd7d7e575b3036a14ff9131d0d617b8b18380d4bdd4877f06aff2f"), looks := true }, kinds := [], alts := [], laidByText := true, laidKinds := [.data, .data, .data], laidTests := true, laidLooks := .later }
def CapsValidsUptoCardSaid : Prop := Claim7.holds Tryd.pinned (.plain (OpenSpec.upto capsValidsSpec)) capsValidsUptoCard

/-- THE SECOND FORM's CARD OF 'aumbrylaw13.CapsParses'. -/
def capsParsesUptoCard : Claim7 := { stood := { row := capsParsesUptoRow, standIns := [], harness := (true, "72854cdb59bd7d7e575b3036a14ff9131d0d617b8b18380d4bdd4877f06aff2f"), looks := true }, kinds := [], alts := [], laidByText := true, laidKinds := [.data, .data, .data], laidTests := true, laidLooks := .later }
def CapsParsesUptoCardSaid : Prop := Claim7.holds Tryd.pinned (.plain (OpenSpec.upto capsParsesSpec)) capsParsesUptoCard

/-- THE SECOND FORM's CARD OF 'aumbrylaw13.CapsBack'. -/
def capsBackUptoCard : Claim7 := { stood := { row := capsBackUptoRow, standIns := [], harness := (true, "72854cdb59bd7d7e575b3036a14ff9131d0d617b8b18380d4bdd4877f06aff2f"), looks := true }, kinds := [], alts := [], laidByText := true, laidKinds := [.data, .data, .data], laidTests := true, laidLooks := .later }
def CapsBackUptoCardSaid : Prop := Claim7.holds Tryd.pinned (.plain (OpenSpec.upto capsBackSpec)) capsBackUptoCard

/-- THE SECOND FORM's CARD OF 'aumbrylaw13.CapsMore'. -/
def capsMoreUptoCard : Claim7 := { stood := { row := capsMoreUptoRow, standIns := [], harness := (true, "72854cdb59bd7d7e575b3036a14ff9131d0d617b8b18380d4bdd4877f06aff2f"), looks := true }, kinds := [], alts := [], laidByText := true, laidKinds := [.data, .data, .data], laidTests := true, laidLooks := .later }
def CapsMoreUptoCardSaid : Prop := Claim7.holds Tryd.pinned (.plain (OpenSpec.upto capsMoreSpec)) capsMoreUptoCard

/-- THE SECOND FORM's CARD OF 'aumbrylaw13.CapsLess'. -/
def capsLessUptoCard : Claim7 := { stood := { row := capsLessUptoRow, standIns := [], harness := (true, "72854cdb59bd7d7e575b3036a14ff9131d0d617b8b18380d4bdd4877f06aff2f"), looks := true }, kinds := [], alts := [], laidByText := true, laidKinds := [.data, .data, .data], laidTests := true, laidLooks := .later }
def CapsLessUptoCardSaid : Prop := Claim7.holds Tryd.pinned (.plain (OpenSpec.upto capsLessSpec)) capsLessUptoCard

/-- THE SECOND FORM's CARD OF 'aumbrylaw13.CapsDown'. -/
def capsDownUptoCard : Claim7 := { stood := { row := capsDownUptoRow, standIns := [], harness := (true, "72854cdb59bd7d7e575b3036a14ff9131d0d617b8b18380d4bdd4877f06aff2f"), looks := true }, kinds := [], alts := [], laidByText := true, laidKinds := [.data, .data, .data], laidTests := true, laidLooks := .later }
def CapsDownUptoCardSaid : Prop := Claim7.holds Tryd.pinned (.plain (OpenSpec.upto capsDownSpec)) capsDownUptoCard

/-- THE SECOND FORM's CARD OF 'aumbrylaw13.CapsKeys'. -/
def capsKeysUptoCard : Claim7 := { stood := { row := capsKeysUptoRow, standIns := [], harness := (true, "72854cdb59bd7d7e575b3036a14ff9131d0d617b8b18380d4bdd4877f06aff2f"), looks := true }, kinds := [], alts := [], laidByText := true, laidKinds := [.data, .data, .data], laidTests := true, laidLooks := .later }
def CapsKeysUptoCardSaid : Prop := Claim7.holds Tryd.pinned (.plain (OpenSpec.upto capsKeysSpec)) capsKeysUptoCard

/-- THE SECOND FORM's CARD OF 'aumbrylaw19.PlaceOrders'. -/
def placeOrdersUptoCard : Claim7 := { stood := { row := placeOrdersUptoRow, standIns := [], harness := (true, "72854cdb59bd7d7e575b3036a14ff9131d0d617b8b18380d4bdd4877f06aff2f"), looks := true }, kinds := [], alts := [], laidByText := true, laidKinds := [.data, .data, .data], laidTests := true, laidLooks := .later }
def PlaceOrdersUptoCardSaid : Prop := Claim7.holds Tryd.pinned (.plain (OpenSpec.upto placeOrdersSpec)) placeOrdersUptoCard

/-- THE SECOND FORM's CARD OF 'aumbrylaw19.PlaceFull'. -/
def placeFullUptoCard : Claim7 := { stood := { row := placeFullUptoRow, standIns := [], harness := (true, "72854cdb59bd7d7e575b3036a14ff9131d0d617b8b18380d4bdd4877f06aff2f"), looks := true }, kinds := [], alts := [], laidByText := true, laidKinds := [.data, .data, .data], laidTests := true, laidLooks := .later }
def PlaceFullUptoCardSaid : Prop := Claim7.holds Tryd.pinned (.plain (OpenSpec.upto placeFullSpec)) placeFullUptoCard
end Rows
end Go.Proofs.YtgjepahhbecljaaDoor
