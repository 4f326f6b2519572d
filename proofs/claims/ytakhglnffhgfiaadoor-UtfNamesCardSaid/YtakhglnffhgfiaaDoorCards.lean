/-
  DERIVED. GIVEN WITH THE SEED: THE CARDS: each row of YtakhglnffhgfiaaDoorRows.lean that lists a variable, with what it lists TIED to the program's text (the seventh form; the later family's looks); each row that meets fmt, with fmt's text TOLD by the authors' own Lean function (tested against real Go, not proved from fmt's source: count such statements apart). THE CARD IS WHAT COUNTS. Prove the row's statement (the work); the ties are given (YtakhglnffhgfiaaDoorTie.lean); close each card by the builder's one call (the guide's Derived/Test/ToyasCard.lean, 'card_holds'). Laid BY PROGRAM, IN A SANDBOX (cutbox-door.mjs). By AI agents, Wed Nov 11 2026. No macro, syntax, notation, axiom, sorry.
-/
import Derived.Test.YtakhglnffhgfiaaDoorRows
import GoSem.ClaimSeven
namespace Go.Proofs.YtakhglnffhgfiaaDoor
namespace Rows

/-- THE TIED CARD OF 'rostrumlaw01.UtfRunes'. -/
def utfRunesCard : Claim7 := { stood := { row := utfRunesRow, standIns := [], harness := (true, "1b332e00a5d24634c2e9b774403ff233178ed478c6cf68ac2e50707b5f688459"), looks := false }, kinds := [], alts := [], laidByText := true, laidKinds := [.data, .pinned], laidTests := true, laidLooks := .later }
def UtfRunesCardSaid : Prop := Claim7.holds Tryd.pinned (.plain (OpenSpec.ofChange utfRunesSpec)) utfRunesCard

/-- THE TIED CARD OF 'rostrumlaw01.UtfCounts'. -/
def utfCountsCard : Claim7 := { stood := { row := utfCountsRow, standIns := [], harness := (true, "1b332e00a5d24634c2e9b774403ff233178ed478c6cf68ac2e50707b5f688459"), looks := false }, kinds := [], alts := [], laidByText := true, laidKinds := [.data, .pinned], laidTests := true, laidLooks := .later }
def UtfCountsCardSaid : Prop := Claim7.holds Tryd.pinned (.plain (OpenSpec.ofChange utfCountsSpec)) utfCountsCard

/-- THE TIED CARD OF 'rostrumlaw01.UtfSums'. -/
def utfSumsCard : Claim7 := { stood := { row := utfSumsRow, standIns := [], harness := (true, "1b332e00a5d24634c2e9b774403ff233178ed478c6cf68ac2e50707b5f688459"), looks := false }, kinds := [], alts := [], laidByText := true, laidKinds := [.data, .pinned], laidTests := true, laidLooks := .later }
def UtfSumsCardSaid : Prop := Claim7.holds Tryd.pinned (.plain (OpenSpec.ofChange utfSumsSpec)) utfSumsCard

/-- THE TIED CARD OF 'rostrumlaw01.UtfNames'. -/
def utfNamesCard : Claim7 := { stood := { row := utfNamesRow, standIns := [], harness := (true, "1b332e00a5d24634c2e9b774403ff233178ed478c6cf68ac2e50707b5f688459"), looks := false }, kinds := [], alts := [], laidByText := true, laidKinds := [.data, .pinned], laidTests := true, laidLooks := .later }
def UtfNamesCardSaid : Prop := Claim7.holds Tryd.pinned (.plain (OpenSpec.ofChange utfNamesSpec)) utfNamesCard

/-- THE TIED CARD OF 'rostrumlaw01.UtfBack'. -/
def utfBackCard : Claim7 := { stood := { row := utfBackRow, standIns := [], harness := (true, "1b332e00a5d24634c2e9b774403ff233178ed478c6cf68ac2e50707b5f688459"), looks := false }, kinds := [], alts := [], laidByText := true, laidKinds := [.data, .pinned], laidTests := true, laidLooks := .later }
def UtfBackCardSaid : Prop := Claim7.holds Tryd.pinned (.plain (OpenSpec.ofChange utfBackSpec)) utfBackCard

/-- THE SECOND FORM's CARD OF 'rostrumlaw01.UtfRunes'. -/
def utfRunesUptoCard : Claim7 := { stood := { row := utfRunesUptoRow, standIns := [], harness := (true, "1b332e00a5d24634c2e9b774403ff233178ed478c6cf68ac2e50707b5f688459"), looks := false }, kinds := [], alts := [], laidByText := true, laidKinds := [.data, .pinned], laidTests := true, laidLooks := .later }
def UtfRunesUptoCardSaid : Prop := Claim7.holds Tryd.pinned (.plain (OpenSpec.upto utfRunesSpec)) utfRunesUptoCard

/-- THE SECOND FORM's CARD OF 'rostrumlaw01.UtfCounts'. -/
def utfCountsUptoCard : Claim7 := { stood := { row := utfCountsUptoRow, standIns := [], harness := (true, "1b332e00a5d24634c2e9b774403ff233178ed478c6cf68ac2e50707b5f688459"), looks := false }, kinds := [], alts := [], laidByText := true, laidKinds := [.data, .pinned], laidTests := true, laidLooks := .later }
def UtfCountsUptoCardSaid : Prop := Claim7.holds Tryd.pinned (.plain (OpenSpec.upto utfCountsSpec)) utfCountsUptoCard

/-- THE SECOND FORM's CARD OF 'rostrumlaw01.UtfSums'. -/
def utfSumsUptoCard : Claim7 := { stood := { row := utfSumsUptoRow, standIns := [], harness := (true, "1b332e00a5d24634c2e9b774403ff233178ed478c6cf68ac2e50707b5f688459"), looks := false }, kinds := [], alts := [], laidByText := true, laidKinds := [.data, .pinned], laidTests := true, laidLooks := .later }
def UtfSumsUptoCardSaid : Prop := Claim7.holds Tryd.pinned (.plain (OpenSpec.upto utfSumsSpec)) utfSumsUptoCard

/-- THE SECOND FORM's CARD OF 'rostrumlaw01.UtfNames'. -/
def utfNamesUptoCard : Claim7 := { stood := { row := utfNamesUptoRow, standIns := [], harness := (true, "1b332e00a5d24634c2e9b774403ff233178ed478c6cf68ac2e50707b5f688459"), looks := false }, kinds := [], alts := [], laidByText := true, laidKinds := [.data, .pinned], laidTests := true, laidLooks := .later }
def UtfNamesUptoCardSaid : Prop := Claim7.holds Tryd.pinned (.plain (OpenSpec.upto utfNamesSpec)) utfNamesUptoCard

/-- THE SECOND FORM's CARD OF 'rostrumlaw01.UtfBack'. -/
def utfBackUptoCard : Claim7 := { stood := { row := utfBackUptoRow, standIns := [], harness := (true, "1b332e00a5d24634c2e9b774403ff233178ed478c6cf68ac2e50707b5f688459"), looks := false }, kinds := [], alts := [], laidByText := true, laidKinds := [.data, .pinned], laidTests := true, laidLooks := .later }
def UtfBackUptoCardSaid : Prop := Claim7.holds Tryd.pinned (.plain (OpenSpec.upto utfBackSpec)) utfBackUptoCard
end Rows
end Go.Proofs.YtakhglnffhgfiaaDoor
