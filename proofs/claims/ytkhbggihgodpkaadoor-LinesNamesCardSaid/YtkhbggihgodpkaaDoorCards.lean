/-
  DERIVED. GIVEN WITH THE SEED: THE CARDS: each row of YtkhbggihgodpkaaDoorRows.lean that lists a variable, with what it lists TIED to the program's text (the seventh form; the later family's looks); each row that meets fmt, with fmt's text TOLD by the authors' own Lean function (tested against real Go, not proved from fmt's source: count such statements apart). THE CARD IS WHAT COUNTS. Prove the row's statement (the work); the ties are given (YtkhbggihgodpkaaDoorTie.lean); close each card by the builder's one call (the guide's Derived/Test/ToyasCard.lean, 'card_holds'). Laid BY PROGRAM, IN A SANDBOX (cutbox-door.mjs). By AI agents, Wed Nov 11 2026. No macro, syntax, notation, axiom, sorry.
-/
import Derived.Test.YtkhbggihgodpkaaDoorRows
import GoSem.ClaimSeven
namespace Go.Proofs.YtkhbggihgodpkaaDoor
namespace Rows

/-- THE TIED CARD OF 'rostrumlaw02.LinesTell'. -/
def linesTellCard : Claim7 := { stood := { row := linesTellRow, standIns := [], harness := (true, "e468bd7978d84d84c585a9d6ba1e3e49fdb3c877fbf299f5c1763d71a9f426af"), looks := false }, kinds := [], alts := [], laidByText := true, laidKinds := [.data, .pinned], laidTests := true, laidLooks := .later }
def LinesTellCardSaid : Prop := Claim7.holds Tryd.pinned (.plain (OpenSpec.ofChange linesTellSpec)) linesTellCard

/-- THE TIED CARD OF 'rostrumlaw02.LinesBack'. -/
def linesBackCard : Claim7 := { stood := { row := linesBackRow, standIns := [], harness := (true, "e468bd7978d84d84c585a9d6ba1e3e49fdb3c877fbf299f5c1763d71a9f426af"), looks := false }, kinds := [], alts := [], laidByText := true, laidKinds := [.data, .pinned], laidTests := true, laidLooks := .later }
def LinesBackCardSaid : Prop := Claim7.holds Tryd.pinned (.plain (OpenSpec.ofChange linesBackSpec)) linesBackCard

/-- THE TIED CARD OF 'rostrumlaw02.LinesOrder'. -/
def linesOrderCard : Claim7 := { stood := { row := linesOrderRow, standIns := [], harness := (true, "e468bd7978d84d84c585a9d6ba1e3e49fdb3c877fbf299f5c1763d71a9f426af"), looks := false }, kinds := [], alts := [], laidByText := true, laidKinds := [.data, .pinned], laidTests := true, laidLooks := .later }
def LinesOrderCardSaid : Prop := Claim7.holds Tryd.pinned (.plain (OpenSpec.ofChange linesOrderSpec)) linesOrderCard

/-- THE TIED CARD OF 'rostrumlaw02.LinesTwo'. -/
def linesTwoCard : Claim7 := { stood := { row := linesTwoRow, standIns := [], harness := (true, "e468bd7978d84d84c585a9d6ba1e3e49fdb3c877fbf299f5c1763d71a9f426af"), looks := false }, kinds := [], alts := [], laidByText := true, laidKinds := [.data, .pinned], laidTests := true, laidLooks := .later }
def LinesTwoCardSaid : Prop := Claim7.holds Tryd.pinned (.plain (OpenSpec.ofChange linesTwoSpec)) linesTwoCard

/-- THE TIED CARD OF 'rostrumlaw02.LinesPlaces'. -/
def linesPlacesCard : Claim7 := { stood := { row := linesPlacesRow, standIns := [], harness := (true, "e468bd7978d84d84c585a9d6ba1e3e49fdb3c877fbf299f5c1763d71a9f426af"), looks := false }, kinds := [], alts := [], laidByText := true, laidKinds := [.data, .pinned], laidTests := true, laidLooks := .later }
def LinesPlacesCardSaid : Prop := Claim7.holds Tryd.pinned (.plain (OpenSpec.ofChange linesPlacesSpec)) linesPlacesCard

/-- THE TIED CARD OF 'rostrumlaw02.LinesNames'. -/
def linesNamesCard : Claim7 := { stood := { row := linesNamesRow, standIns := [], harness := (true, "e468bd7978d84d84c585a9d6ba1e3e49fdb3c877fbf299f5c1763d71a9f426af"), looks := false }, kinds := [], alts := [], laidByText := true, laidKinds := [.data, .pinned], laidTests := true, laidLooks := .later }
def LinesNamesCardSaid : Prop := Claim7.holds Tryd.pinned (.plain (OpenSpec.ofChange linesNamesSpec)) linesNamesCard

/-- THE SECOND FORM's CARD OF 'rostrumlaw02.LinesTell'. -/
def linesTellUptoCard : Claim7 := { stood := { row := linesTellUptoRow, standIns := [], harness := (true, "e468bd7978d84d84c585a9d6ba1e3e49fdb3c877fbf299f5c1763d71a9f426af"), looks := false }, kinds := [], alts := [], laidByText := true, laidKinds := [.data, .pinned], laidTests := true, laidLooks := .later }
def LinesTellUptoCardSaid : Prop := Claim7.holds Tryd.pinned (.plain (OpenSpec.upto linesTellSpec)) linesTellUptoCard

/-- THE SECOND FORM's CARD OF 'rostrumlaw02.LinesBack'. -/
def linesBackUptoCard : Claim7 := { stood := { row := linesBackUptoRow, standIns := [], harness := (true, "e468bd7978d84d84c585a9d6ba1e3e49fdb3c877fbf299f5c1763d71a9f426af"), looks := false }, kinds := [], alts := [], laidByText := true, laidKinds := [.data, .pinned], laidTests := true, laidLooks := .later }
def LinesBackUptoCardSaid : Prop := Claim7.holds Tryd.pinned (.plain (OpenSpec.upto linesBackSpec)) linesBackUptoCard

/-- THE SECOND FORM's CARD OF 'rostrumlaw02.LinesOrder'. -/
def linesOrderUptoCard : Claim7 := { stood := { row := linesOrderUptoRow, standIns := [], harness := (true, "e468bd7978d84d84c585a9d6ba1e3e49fdb3c877fbf299f5c1763d71a9f426af"), looks := false }, kinds := [], alts := [], laidByText := true, laidKinds := [.data, .pinned], laidTests := true, laidLooks := .later }
def LinesOrderUptoCardSaid : Prop := Claim7.holds Tryd.pinned (.plain (OpenSpec.upto linesOrderSpec)) linesOrderUptoCard

/-- THE SECOND FORM's CARD OF 'rostrumlaw02.LinesTwo'. -/
def linesTwoUptoCard : Claim7 := { stood := { row := linesTwoUptoRow, standIns := [], harness := (true, "e468bd7978d84d84c585a9d6ba1e3e49fdb3c877fbf299f5c1763d71a9f426af"), looks := false }, kinds := [], alts := [], laidByText := true, laidKinds := [.data, .pinned], laidTests := true, laidLooks := .later }
def LinesTwoUptoCardSaid : Prop := Claim7.holds Tryd.pinned (.plain (OpenSpec.upto linesTwoSpec)) linesTwoUptoCard

/-- THE SECOND FORM's CARD OF 'rostrumlaw02.LinesPlaces'. -/
def linesPlacesUptoCard : Claim7 := { stood := { row := linesPlacesUptoRow, standIns := [], harness := (true, "e468bd7978d84d84c585a9d6ba1e3e49fdb3c877fbf299f5c1763d71a9f426af"), looks := false }, kinds := [], alts := [], laidByText := true, laidKinds := [.data, .pinned], laidTests := true, laidLooks := .later }
def LinesPlacesUptoCardSaid : Prop := Claim7.holds Tryd.pinned (.plain (OpenSpec.upto linesPlacesSpec)) linesPlacesUptoCard

/-- THE SECOND FORM's CARD OF 'rostrumlaw02.LinesNames'. -/
def linesNamesUptoCard : Claim7 := { stood := { row := linesNamesUptoRow, standIns := [], harness := (true, "e468bd7978d84d84c585a9d6ba1e3e49fdb3c877fbf299f5c1763d71a9f426af"), looks := false }, kinds := [], alts := [], laidByText := true, laidKinds := [.data, .pinned], laidTests := true, laidLooks := .later }
def LinesNamesUptoCardSaid : Prop := Claim7.holds Tryd.pinned (.plain (OpenSpec.upto linesNamesSpec)) linesNamesUptoCard
end Rows
end Go.Proofs.YtkhbggihgodpkaaDoor
