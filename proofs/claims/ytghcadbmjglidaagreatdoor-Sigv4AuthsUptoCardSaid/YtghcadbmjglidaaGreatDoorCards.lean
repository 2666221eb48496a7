/-
  DERIVED. GIVEN WITH THE SEED: THE CARDS: each row of YtghcadbmjglidaaGreatDoorRows.lean that lists a variable, with what it lists TIED to the program's text (the seventh form; the later family's looks); each row that meets fmt, with fmt's text TOLD by the authors' own Lean function (tested against real Go, not proved from fmt's source: count such statements apart). THE CARD IS WHAT COUNTS. Prove the row's statement (the work); the ties are given (YtghcadbmjglidaaGreatDoorTie.lean); close each card by the builder's one call (the guide's Derived/Test/ToyasCard.lean, 'card_holds'). Laid BY PROGRAM, IN A SANDBOX (cutbox-door.mjs). By AI agents, Wed Nov 11 2026. No macro, syntax, notation, axiom, sorry.
-/
import Derived.Test.YtghcadbmjglidaaGreatDoorRows
import GoSem.ClaimSeven
namespace Go.Proofs.YtghcadbmjglidaaGreatDoor
namespace Rows

/-- THE TIED CARD OF 'stelelaw06.Sigv4Auths'. -/
def sigv4AuthsCard : Claim7 := { stood := { row := sigv4AuthsRow, standIns := [], harness := (true, "11dab6e7c804d81086d48510f594f851fdbfbcd599d2b6c6848df07feec85441"), looks := false }, kinds := [], alts := [], laidByText := true, laidKinds := [.data, .pinned, .pinned], laidTests := true, laidLooks := .later }
def Sigv4AuthsCardSaid : Prop := Claim7.holds Tryz.pinned (.plain (OpenSpec.ofChange sigv4AuthsSpec)) sigv4AuthsCard

/-- THE TIED CARD OF 'stelelaw06.Sigv4Back'. -/
def sigv4BackCard : Claim7 := { stood := { row := sigv4BackRow, standIns := [], harness := (true, "11dab6e7c804d81086d48510f594f851fdbfbcd599d2b6c6848df07feec85441"), looks := false }, kinds := [], alts := [], laidByText := true, laidKinds := [.data, .pinned, .pinned], laidTests := true, laidLooks := .later }
def Sigv4BackCardSaid : Prop := Claim7.holds Tryz.pinned (.plain (OpenSpec.ofChange sigv4BackSpec)) sigv4BackCard

/-- THE TIED CARD OF 'stelelaw06.Sigv4Turned'. -/
def sigv4TurnedCard : Claim7 := { stood := { row := sigv4TurnedRow, standIns := [], harness := (true, "11dab6e7c804d81086d48510f594f851fdbfbcd599d2b6c6848df07feec85441"), looks := false }, kinds := [], alts := [], laidByText := true, laidKinds := [.data, .pinned, .pinned], laidTests := true, laidLooks := .later }
def Sigv4TurnedCardSaid : Prop := Claim7.holds Tryz.pinned (.plain (OpenSpec.ofChange sigv4TurnedSpec)) sigv4TurnedCard

/-- THE SECOND FORM's CARD OF 'stelelaw06.Sigv4Auths'. -/
def sigv4AuthsUptoCard : Claim7 := { stood := { row := sigv4AuthsUptoRow, standIns := [], harness := (true, "11dab6e7c804d81086d48510f594f851fdbfbcd599d2b6c6848df07feec85441"), looks := false }, kinds := [], alts := [], laidByText := true, laidKinds := [.data, .pinned, .pinned], laidTests := true, laidLooks := .later }
def Sigv4AuthsUptoCardSaid : Prop := Claim7.holds Tryz.pinned (.plain (OpenSpec.upto sigv4AuthsSpec)) sigv4AuthsUptoCard

/-- THE SECOND FORM's CARD OF 'stelelaw06.Sigv4Back'. -/
def sigv4BackUptoCard : Claim7 := { stood := { row := sigv4BackUptoRow, standIns := [], harness := (true, "11dab6e7c804d81086d48510f594f851fdbfbcd599d2b6c6848df07feec85441"), looks := false }, kinds := [], alts := [], laidByText := true, laidKinds := [.data, .pinned, .pinned], laidTests := true, laidLooks := .later }
def Sigv4BackUptoCardSaid : Prop := Claim7.holds Tryz.pinned (.plain (OpenSpec.upto sigv4BackSpec)) sigv4BackUptoCard

/-- THE SECOND FORM's CARD OF 'stelelaw06.Sigv4Turned'. -/
def sigv4TurnedUptoCard : Claim7 := { stood := { row := sigv4TurnedUptoRow, standIns := [], harness := (true, "11dab6e7c804d81086d48510f594f851fdbfbcd599d2b6c6848df07feec85441"), looks := false }, kinds := [], alts := [], laidByText := true, laidKinds := [.data, .pinned, .pinned], laidTests := true, laidLooks := .later }
def Sigv4TurnedUptoCardSaid : Prop := Claim7.holds Tryz.pinned (.plain (OpenSpec.upto sigv4TurnedSpec)) sigv4TurnedUptoCard
end Rows
end Go.Proofs.YtghcadbmjglidaaGreatDoor
