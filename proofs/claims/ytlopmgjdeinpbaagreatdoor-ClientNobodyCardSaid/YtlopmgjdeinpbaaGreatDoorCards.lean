/-
  DERIVED. GIVEN WITH THE SEED: THE CARDS: each row of YtlopmgjdeinpbaaGreatDoorRows.lean that lists a variable, with what it lists TIED to the program's text (the seventh form; the later family's looks); each row that meets fmt, with fmt's text TOLD by the authors' own Lean function (tested against real Go, not proved from fmt's source: count such statements apart). THE CARD IS WHAT COUNTS. Prove the row's statement (the work); the ties are given (YtlopmgjdeinpbaaGreatDoorTie.lean); close each card by the builder's one call (the guide's Derived/Test/ToyasCard.lean, 'card_holds'). Laid BY PROGRAM, IN A SANDBOX (cutbox-door.mjs). By AI agents, Wed Nov 11 2026. No macro, syntax, notation, axiom, sorry.
-/
import Derived.Test.YtlopmgjdeinpbaaGreatDoorRows
import GoSem.ClaimSeven
namespace Go.Proofs.YtlopmgjdeinpbaaGreatDoor
namespace Rows

/-- THE TIED CARD OF 'sporranlaw21.ClientNobody'. -/
def clientNobodyCard : Claim7 := { stood := { row := clientNobodyRow, standIns := [], harness := (true, "8d7d81aa121d67aca5a12cc7e5dab44d8978ace9331a72b00c59c40d814285c1"), looks := true }, kinds := [], alts := [], laidByText := true, laidKinds := [.data, .data, .data, .data, .data], laidTests := true, laidLooks := .later }
def ClientNobodyCardSaid : Prop := Claim7.holds Tryz.pinned (.plain (OpenSpec.ofChange clientNobodySpec)) clientNobodyCard

/-- THE SECOND FORM's CARD OF 'sporranlaw21.ClientNobody'. -/
def clientNobodyUptoCard : Claim7 := { stood := { row := clientNobodyUptoRow, standIns := [], harness := (true, "8d7d81aa121d67aca5a12cc7e5dab44d8978ace9331a72b00c59c40d814285c1"), looks := true }, kinds := [], alts := [], laidByText := true, laidKinds := [.data, .data, .data, .data, .data], laidTests := true, laidLooks := .later }
def ClientNobodyUptoCardSaid : Prop := Claim7.holds Tryz.pinned (.plain (OpenSpec.upto clientNobodySpec)) clientNobodyUptoCard
end Rows
end Go.Proofs.YtlopmgjdeinpbaaGreatDoor
