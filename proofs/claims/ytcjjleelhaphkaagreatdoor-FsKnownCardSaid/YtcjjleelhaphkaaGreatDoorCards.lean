/-
  DERIVED. GIVEN WITH THE SEED: THE CARDS: each row of YtcjjleelhaphkaaGreatDoorRows.lean that lists a variable, with what it lists TIED to the program's text (the seventh form; the later family's looks); each row that meets fmt, with fmt's text TOLD by the authors' own Lean function (tested against real Go, not proved from fmt's source: count such statements apart). THE CARD IS WHAT COUNTS. Prove the row's statement (the work); the ties are given (YtcjjleelhaphkaaGreatDoorTie.lean); close each card by the builder's one call (the guide's Derived/Test/ToyasCard.lean, 'card_holds'). Laid BY PROGRAM, IN A SANDBOX (cutbox-door.mjs). By AI agents, Wed Nov 11 2026. No macro, syntax, notation, axiom, sorry.
-/
import Derived.Test.YtcjjleelhaphkaaGreatDoorRows
import GoSem.ClaimSeven
namespace Go.Proofs.YtcjjleelhaphkaaGreatDoor
namespace Rows

/-- THE TIED CARD OF 'whisklaw10.CanonKnown'. -/
def canonKnownCard : Claim7 := { stood := { row := canonKnownRow, standIns := [], harness := (true, "dc4127f7160c6ca4677b243ab56a4ac5e6fce9980b6a9299770732797705b49c"), looks := false }, kinds := [], alts := [], laidByText := true, laidKinds := [.data, .pinned], laidTests := true, laidLooks := .later }
def CanonKnownCardSaid : Prop := Claim7.holds Tryz.pinned (.plain (OpenSpec.ofChange canonKnownSpec)) canonKnownCard

/-- THE TIED CARD OF 'whisklaw08.FsKnown'. -/
def fsKnownCard : Claim7 := { stood := { row := fsKnownRow, standIns := [], harness := (true, "dc4127f7160c6ca4677b243ab56a4ac5e6fce9980b6a9299770732797705b49c"), looks := false }, kinds := [], alts := [], laidByText := true, laidKinds := [.data, .pinned], laidTests := true, laidLooks := .later }
def FsKnownCardSaid : Prop := Claim7.holds Tryz.pinned (.plain (OpenSpec.ofChange fsKnownSpec)) fsKnownCard

/-- THE TIED CARD OF 'whisklaw16.FieldKnown'. -/
def fieldKnownCard : Claim7 := { stood := { row := fieldKnownRow, standIns := [], harness := (true, "dc4127f7160c6ca4677b243ab56a4ac5e6fce9980b6a9299770732797705b49c"), looks := false }, kinds := [], alts := [], laidByText := true, laidKinds := [.data, .pinned], laidTests := true, laidLooks := .later }
def FieldKnownCardSaid : Prop := Claim7.holds Tryz.pinned (.plain (OpenSpec.ofChange fieldKnownSpec)) fieldKnownCard

/-- THE SECOND FORM's CARD OF 'whisklaw10.CanonKnown'. -/
def canonKnownUptoCard : Claim7 := { stood := { row := canonKnownUptoRow, standIns := [], harness := (true, "dc4127f7160c6ca4677b243ab56a4ac5e6fce9980b6a9299770732797705b49c"), looks := false }, kinds := [], alts := [], laidByText := true, laidKinds := [.data, .pinned], laidTests := true, laidLooks := .later }
def CanonKnownUptoCardSaid : Prop := Claim7.holds Tryz.pinned (.plain (OpenSpec.upto canonKnownSpec)) canonKnownUptoCard

/-- THE SECOND FORM's CARD OF 'whisklaw08.FsKnown'. -/
def fsKnownUptoCard : Claim7 := { stood := { row := fsKnownUptoRow, standIns := [], harness := (true, "dc4127f7160c6ca4677b243ab56a4ac5e6fce9980b6a9299770732797705b49c"), looks := false }, kinds := [], alts := [], laidByText := true, laidKinds := [.data, .pinned], laidTests := true, laidLooks := .later }
def FsKnownUptoCardSaid : Prop := Claim7.holds Tryz.pinned (.plain (OpenSpec.upto fsKnownSpec)) fsKnownUptoCard

/-- THE SECOND FORM's CARD OF 'whisklaw16.FieldKnown'. -/
def fieldKnownUptoCard : Claim7 := { stood := { row := fieldKnownUptoRow, standIns := [], harness := (true, "dc4127f7160c6ca4677b243ab56a4ac5e6fce9980b6a9299770732797705b49c"), looks := false }, kinds := [], alts := [], laidByText := true, laidKinds := [.data, .pinned], laidTests := true, laidLooks := .later }
def FieldKnownUptoCardSaid : Prop := Claim7.holds Tryz.pinned (.plain (OpenSpec.upto fieldKnownSpec)) fieldKnownUptoCard
end Rows
end Go.Proofs.YtcjjleelhaphkaaGreatDoor
