/-
  DERIVED. GIVEN WITH THE SEED: THE CARDS: each row of YtbnlcffnmlgomaaGreatDoorRows.lean that lists a variable, with what it lists TIED to the program's text (the seventh form; the later family's looks); each row that meets fmt, with fmt's text TOLD by the authors' own Lean function (tested against real Go, not proved from fmt's source: count such statements apart). THE CARD IS WHAT COUNTS. Prove the row's statement (the work); the ties are given (YtbnlcffnmlgomaaGreatDoorTie.lean); close each card by the builder's one call (the guide's Derived/Test/ToyasCard.lean, 'card_holds'). Laid BY PROGRAM, IN A SANDBOX (cutbox-door.mjs). By AI agents, Wed Nov 11 2026. No macro, syntax, notation, axiom, sorry.
-/
import Derived.Test.YtbnlcffnmlgomaaGreatDoorRows
import GoSem.ClaimSeven
namespace Go.Proofs.YtbnlcffnmlgomaaGreatDoor
namespace Rows

/-- THE TIED CARD OF 'commonplacelaw30.OracleTells'. -/
def oracleTellsCard : Claim7 := { stood := { row := oracleTellsRow, standIns := [], harness := (true, "9f9f5a5bf361c9534715186352c89bcede31e02442bfc640e60dbebbe027727d"), looks := true }, kinds := [], alts := [], laidByText := true, laidKinds := [.data, .data, .data, .data, .pinned], laidTests := true, laidLooks := .later }
def OracleTellsCardSaid : Prop := Claim7.holds Tryz.pinned (.plain (OpenSpec.ofChange oracleTellsSpec)) oracleTellsCard

/-- THE TIED CARD OF 'commonplacelaw30.OracleSettled'. -/
def oracleSettledCard : Claim7 := { stood := { row := oracleSettledRow, standIns := [], harness := (true, "9f9f5a5bf361c9534715186352c89bcede31e02442bfc640e60dbebbe027727d"), looks := true }, kinds := [], alts := [], laidByText := true, laidKinds := [.data, .data, .data, .data, .pinned], laidTests := true, laidLooks := .later }
def OracleSettledCardSaid : Prop := Claim7.holds Tryz.pinned (.plain (OpenSpec.ofChange oracleSettledSpec)) oracleSettledCard

/-- THE TIED CARD OF 'commonplacelaw30.OracleNil'. -/
def oracleNilCard : Claim7 := { stood := { row := oracleNilRow, standIns := [], harness := (true, "9f9f5a5bf361c9534715186352c89bcede31e02442bfc640e60dbebbe027727d"), looks := true }, kinds := [], alts := [], laidByText := true, laidKinds := [.data, .data, .data, .data, .pinned], laidTests := true, laidLooks := .later }
def OracleNilCardSaid : Prop := Claim7.holds Tryz.pinned (.plain (OpenSpec.ofChange oracleNilSpec)) oracleNilCard

/-- THE TIED CARD OF 'commonplacelaw21.AcceptGap'. -/
def acceptGapCard : Claim7 := { stood := { row := acceptGapRow, standIns := [], harness := (true, "9f9f5a5bf361c9534715186352c89bcede31e02442bfc640e60dbebbe027727d"), looks := true }, kinds := [], alts := [], laidByText := true, laidKinds := [.data, .data, .data, .data, .sentinel, .sentinel, .pinned, .pinned], laidTests := true, laidLooks := .later }
def AcceptGapCardSaid : Prop := Claim7.holds Tryz.pinned (.plain (OpenSpec.ofChange acceptGapSpec)) acceptGapCard

/-- THE TIED CARD OF 'commonplacelaw21.AcceptNil'. -/
def acceptNilCard : Claim7 := { stood := { row := acceptNilRow, standIns := [], harness := (true, "9f9f5a5bf361c9534715186352c89bcede31e02442bfc640e60dbebbe027727d"), looks := true }, kinds := [], alts := [], laidByText := true, laidKinds := [.data, .data, .data, .data, .sentinel, .sentinel, .pinned, .pinned], laidTests := true, laidLooks := .later }
def AcceptNilCardSaid : Prop := Claim7.holds Tryz.pinned (.plain (OpenSpec.ofChange acceptNilSpec)) acceptNilCard

/-- THE SECOND FORM's CARD OF 'commonplacelaw30.OracleTells'. -/
def oracleTellsUptoCard : Claim7 := { stood := { row := oracleTellsUptoRow, standIns := [], harness := (true, "9f9f5a5bf361c9534715186352c89bcede31e02442bfc640e60dbebbe027727d"), looks := true }, kinds := [], alts := [], laidByText := true, laidKinds := [.data, .data, .data, .data, .pinned], laidTests := true, laidLooks := .later }
def OracleTellsUptoCardSaid : Prop := Claim7.holds Tryz.pinned (.plain (OpenSpec.upto oracleTellsSpec)) oracleTellsUptoCard

/-- THE SECOND FORM's CARD OF 'commonplacelaw30.OracleSettled'. -/
def oracleSettledUptoCard : Claim7 := { stood := { row := oracleSettledUptoRow, standIns := [], harness := (true, "9f9f5a5bf361c9534715186352c89bcede31e02442bfc640e60dbebbe027727d"), looks := true }, kinds := [], alts := [], laidByText := true, laidKinds := [.data, .data, .data, .data, .pinned], laidTests := true, laidLooks := .later }
def OracleSettledUptoCardSaid : Prop := Claim7.holds Tryz.pinned (.plain (OpenSpec.upto oracleSettledSpec)) oracleSettledUptoCard

/-- THE SECOND FORM's CARD OF 'commonplacelaw30.OracleNil'. -/
def oracleNilUptoCard : Claim7 := { stood := { row := oracleNilUptoRow, standIns := [], harness := (true, "9f9f5a5bf361c9534715186352c89bcede31e02442bfc640e60dbebbe027727d"), looks := true }, kinds := [], alts := [], laidByText := true, laidKinds := [.data, .data, .data, .data, .pinned], laidTests := true, laidLooks := .later }
def OracleNilUptoCardSaid : Prop := Claim7.holds Tryz.pinned (.plain (OpenSpec.upto oracleNilSpec)) oracleNilUptoCard

/-- THE SECOND FORM's CARD OF 'commonplacelaw21.AcceptGap'. -/
def acceptGapUptoCard : Claim7 := { stood := { row := acceptGapUptoRow, standIns := [], harness := (true, "9f9f5a5bf361c9534715186352c89bcede31e02442bfc640e60dbebbe027727d"), looks := true }, kinds := [], alts := [], laidByText := true, laidKinds := [.data, .data, .data, .data, .sentinel, .sentinel, .pinned, .pinned], laidTests := true, laidLooks := .later }
def AcceptGapUptoCardSaid : Prop := Claim7.holds Tryz.pinned (.plain (OpenSpec.upto acceptGapSpec)) acceptGapUptoCard

/-- THE SECOND FORM's CARD OF 'commonplacelaw21.AcceptNil'. -/
def acceptNilUptoCard : Claim7 := { stood := { row := acceptNilUptoRow, standIns := [], harness := (true, "9f9f5a5bf361c9534715186352c89bcede31e02442bfc640e60dbebbe027727d"), looks := true }, kinds := [], alts := [], laidByText := true, laidKinds := [.data, .data, .data, .data, .sentinel, .sentinel, .pinned, .pinned], laidTests := true, laidLooks := .later }
def AcceptNilUptoCardSaid : Prop := Claim7.holds Tryz.pinned (.plain (OpenSpec.upto acceptNilSpec)) acceptNilUptoCard
end Rows
end Go.Proofs.YtbnlcffnmlgomaaGreatDoor
