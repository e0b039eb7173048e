/-
  DERIVED. GIVEN WITH THE SEED: THE CARDS: each row of YtahpijfhoopilaaGreatDoorRows.lean that lists a variable, with what it lists TIED to the program's text (the seventh form; the later family's looks); each row that meets fmt, with fmt's text TOLD by the authors' own Lean function (tested against real Go, not proved from fmt's source: count such statements apart). THE CARD IS WHAT COUNTS. Prove the row's statement (the work); the ties are given (YtahpijfhoopilaaGreatDoorTie.lean); close each card by the builder's one call (the guide's Derived/Test/ToyasCard.lean, 'card_holds'). Laid BY PROGRAM, IN A SANDBOX (cutbox-door.mjs). By AI agents, Wed Nov 11 2026. No macro, syntax, notation, axiom, sorry.
-/
import Derived.Test.YtahpijfhoopilaaGreatDoorRows
import GoSem.ClaimSeven
namespace Go.Proofs.YtahpijfhoopilaaGreatDoor
namespace Rows

/-- THE TIED CARD OF 'commonplacelaw21.AcceptGap'. -/
def acceptGapCard : Claim7 := { stood := { row := acceptGapRow, standIns := [], harness := (true, "3dd04009d38a9a2874cab9bb51b6fb76b26e9a5f6b119d1ef4cdf1b5bce2f942"), looks := true }, kinds := [], alts := [], laidByText := true, laidKinds := [.data, .data, .data, .data, .sentinel, .sentinel, .pinned, .pinned], laidTests := true, laidLooks := .later }
def AcceptGapCardSaid : Prop := Claim7.holds Tryz.pinned (.plain (OpenSpec.ofChange acceptGapSpec)) acceptGapCard

/-- THE TIED CARD OF 'commonplacelaw21.AcceptNil'. -/
def acceptNilCard : Claim7 := { stood := { row := acceptNilRow, standIns := [], harness := (true, "3dd04009d38a9a2874cab9bb51b6fb76b26e9a5f6b119d1ef4cdf1b5bce2f942"), looks := true }, kinds := [], alts := [], laidByText := true, laidKinds := [.data, .data, .data, .data, .sentinel, .sentinel, .pinned, .pinned], laidTests := true, laidLooks := .later }
def AcceptNilCardSaid : Prop := Claim7.holds Tryz.pinned (.plain (OpenSpec.ofChange acceptNilSpec)) acceptNilCard

/-- THE TIED CARD OF 'commonplacelaw22.AnswerNil'. -/
def answerNilCard : Claim7 := { stood := { row := answerNilRow, standIns := [], harness := (true, "3dd04009d38a9a2874cab9bb51b6fb76b26e9a5f6b119d1ef4cdf1b5bce2f942"), looks := true }, kinds := [], alts := [], laidByText := true, laidKinds := [.data, .data, .data, .data, .sentinel, .sentinel, .pinned, .pinned], laidTests := true, laidLooks := .later }
def AnswerNilCardSaid : Prop := Claim7.holds Tryz.pinned (.plain (OpenSpec.ofChange answerNilSpec)) answerNilCard

/-- THE SECOND FORM's CARD OF 'commonplacelaw21.AcceptGap'. -/
def acceptGapUptoCard : Claim7 := { stood := { row := acceptGapUptoRow, standIns := [], harness := (true, "3dd04009d38a9a2874cab9bb51b6fb76b26e9a5f6b119d1ef4cdf1b5bce2f942"), looks := true }, kinds := [], alts := [], laidByText := true, laidKinds := [.data, .data, .data, .data, .sentinel, .sentinel, .pinned, .pinned], laidTests := true, laidLooks := .later }
def AcceptGapUptoCardSaid : Prop := Claim7.holds Tryz.pinned (.plain (OpenSpec.upto acceptGapSpec)) acceptGapUptoCard

/-- THE SECOND FORM's CARD OF 'commonplacelaw21.AcceptNil'. -/
def acceptNilUptoCard : Claim7 := { stood := { row := acceptNilUptoRow, standIns := [], harness := (true, "3dd04009d38a9a2874cab9bb51b6fb76b26e9a5f6b119d1ef4cdf1b5bce2f942"), looks := true }, kinds := [], alts := [], laidByText := true, laidKinds := [.data, .data, .data, .data, .sentinel, .sentinel, .pinned, .pinned], laidTests := true, laidLooks := .later }
def AcceptNilUptoCardSaid : Prop := Claim7.holds Tryz.pinned (.plain (OpenSpec.upto acceptNilSpec)) acceptNilUptoCard

/-- THE SECOND FORM's CARD OF 'commonplacelaw22.AnswerNil'. -/
def answerNilUptoCard : Claim7 := { stood := { row := answerNilUptoRow, standIns := [], harness := (true, "3dd04009d38a9a2874cab9bb51b6fb76b26e9a5f6b119d1ef4cdf1b5bce2f942"), looks := true }, kinds := [], alts := [], laidByText := true, laidKinds := [.data, .data, .data, .data, .sentinel, .sentinel, .pinned, .pinned], laidTests := true, laidLooks := .later }
def AnswerNilUptoCardSaid : Prop := Claim7.holds Tryz.pinned (.plain (OpenSpec.upto answerNilSpec)) answerNilUptoCard
end Rows
end Go.Proofs.YtahpijfhoopilaaGreatDoor
