/-
  DERIVED. GIVEN WITH THE SEED: THE CARDS: each row of YtgmhcbmkdimoiaaGreatDoorRows.lean that lists a variable, with what it lists TIED to the program's text (the seventh form; the later family's looks); each row that meets fmt, with fmt's text TOLD by the authors' own Lean function (tested against real Go, not proved from fmt's source: count such statements apart). THE CARD IS WHAT COUNTS. Prove the row's statement (the work); the ties are given (YtgmhcbmkdimoiaaGreatDoorTie.lean); close each card by the builder's one call (the guide's Derived/Test/ToyasCard.lean, 'card_holds'). Laid BY PROGRAM, IN A SANDBOX (cutbox-door.mjs). By AI agents, Wed Nov 11 2026. No macro, syntax, notation, axiom, sorry.
-/
import Derived.Test.YtgmhcbmkdimoiaaGreatDoorRows
import GoSem.ClaimSeven
namespace Go.Proofs.YtgmhcbmkdimoiaaGreatDoor
namespace Rows

/-- THE TIED CARD OF 'phosphorlaw25.TermReplies'. -/
def termRepliesCard : Claim7 := { stood := { row := termRepliesRow, standIns := [], harness := (true, "7ad7a1c1a92eeedd48879f175d68094d4c49ca4502bfd94a5b2055577c1162d0"), looks := true }, kinds := [], alts := [], laidByText := true, laidKinds := [.data, .data, .data, .data, .pinned], laidTests := true, laidLooks := .later }
def TermRepliesCardSaid : Prop := Claim7.holds Tryz.pinned (.plain (OpenSpec.ofChange termRepliesSpec)) termRepliesCard

/-- THE SECOND FORM's CARD OF 'phosphorlaw25.TermReplies'. -/
def termRepliesUptoCard : Claim7 := { stood := { row := termRepliesUptoRow, standIns := [], harness := (true, "7ad7a1c1a92eeedd48879f175d68094d4c49ca4502bfd94a5b2055577c1162d0"), looks := true }, kinds := [], alts := [], laidByText := true, laidKinds := [.data, .data, .data, .data, .pinned], laidTests := true, laidLooks := .later }
def TermRepliesUptoCardSaid : Prop := Claim7.holds Tryz.pinned (.plain (OpenSpec.upto termRepliesSpec)) termRepliesUptoCard
end Rows
end Go.Proofs.YtgmhcbmkdimoiaaGreatDoor
