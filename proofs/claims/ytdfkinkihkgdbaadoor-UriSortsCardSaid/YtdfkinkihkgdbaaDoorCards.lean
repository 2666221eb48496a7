/-
  DERIVED. GIVEN WITH THE SEED: THE CARDS: each row of YtdfkinkihkgdbaaDoorRows.lean that lists a variable, with what it lists TIED to the program's text (the seventh form; the later family's looks); each row that meets fmt, with fmt's text TOLD by the authors' own Lean function (tested against real Go, not proved from fmt's source: count such statements apart). THE CARD IS WHAT COUNTS. Prove the row's statement (the work); the ties are given (YtdfkinkihkgdbaaDoorTie.lean); close each card by the builder's one call (the guide's Derived/Test/ToyasCard.lean, 'card_holds'). Laid BY PROGRAM, IN A SANDBOX (cutbox-door.mjs). By AI agents, Wed Nov 11 2026. No macro, syntax, notation, axiom, sorry.
-/
import Derived.Test.YtdfkinkihkgdbaaDoorRows
import GoSem.ClaimSeven
namespace Go.Proofs.YtdfkinkihkgdbaaDoor
namespace Rows

/-- THE TIED CARD OF 'stelelaw04.UriQueries'. -/
def uriQueriesCard : Claim7 := { stood := { row := uriQueriesRow, standIns := [], harness := (true, "dc82999808594025b0990d76919b241e101d0b3480bb94cba42a3065b98efc84"), looks := false }, kinds := [], alts := [], laidByText := true, laidKinds := [.data, .pinned], laidTests := true, laidLooks := .later }
def UriQueriesCardSaid : Prop := Claim7.holds Tryd.pinned (.plain (OpenSpec.ofChange uriQueriesSpec)) uriQueriesCard

/-- THE TIED CARD OF 'stelelaw04.UriSorts'. -/
def uriSortsCard : Claim7 := { stood := { row := uriSortsRow, standIns := [], harness := (true, "dc82999808594025b0990d76919b241e101d0b3480bb94cba42a3065b98efc84"), looks := false }, kinds := [], alts := [], laidByText := true, laidKinds := [.data, .pinned], laidTests := true, laidLooks := .later }
def UriSortsCardSaid : Prop := Claim7.holds Tryd.pinned (.plain (OpenSpec.ofChange uriSortsSpec)) uriSortsCard

/-- THE SECOND FORM's CARD OF 'stelelaw04.UriQueries'. -/
def uriQueriesUptoCard : Claim7 := { stood := { row := uriQueriesUptoRow, standIns := [], harness := (true, "dc82999808594025b0990d76919b241e101d0b3480bb94cba42a3065b98efc84"), looks := false }, kinds := [], alts := [], laidByText := true, laidKinds := [.data, .pinned], laidTests := true, laidLooks := .later }
def UriQueriesUptoCardSaid : Prop := Claim7.holds Tryd.pinned (.plain (OpenSpec.upto uriQueriesSpec)) uriQueriesUptoCard

/-- THE SECOND FORM's CARD OF 'stelelaw04.UriSorts'. -/
def uriSortsUptoCard : Claim7 := { stood := { row := uriSortsUptoRow, standIns := [], harness := (true, "dc82999808594025b0990d76919b241e101d0b3480bb94cba42a3065b98efc84"), looks := false }, kinds := [], alts := [], laidByText := true, laidKinds := [.data, .pinned], laidTests := true, laidLooks := .later }
def UriSortsUptoCardSaid : Prop := Claim7.holds Tryd.pinned (.plain (OpenSpec.upto uriSortsSpec)) uriSortsUptoCard
end Rows
end Go.Proofs.YtdfkinkihkgdbaaDoor
