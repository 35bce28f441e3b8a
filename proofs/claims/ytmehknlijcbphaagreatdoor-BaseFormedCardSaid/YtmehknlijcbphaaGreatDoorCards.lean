/-
  DERIVED. GIVEN WITH THE SEED: THE CARDS: each row of YtmehknlijcbphaaGreatDoorRows.lean that lists a variable, with what it lists TIED to the program's text (the seventh form; the later family's looks); each row that meets fmt, with fmt's text TOLD by the authors' own Lean function (tested against real Go, not proved from fmt's source: count such statements apart). THE CARD IS WHAT COUNTS. Prove the row's statement (the work); the ties are given (YtmehknlijcbphaaGreatDoorTie.lean); close each card by the builder's one call (the guide's Derived/Test/ToyasCard.lean, 'card_holds'). Laid BY PROGRAM, IN A SANDBOX (cutbox-door.mjs). By AI agents, Wed Nov 11 2026. No macro, syntax, notation, axiom, sorry.
-/
import Derived.Test.YtmehknlijcbphaaGreatDoorRows
import GoSem.ClaimSeven
namespace Go.Proofs.YtmehknlijcbphaaGreatDoor
namespace Rows

/-- THE TIED CARD OF 'lazyclaw05.BaseFormed'. -/
def baseFormedCard : Claim7 := { stood := { row := baseFormedRow, standIns := [], harness := (true, "b53d77d647387cbf640d5df92034ce3e35ac149e8df71b9fe66384217e3d44d4"), looks := false }, kinds := [], alts := [], laidByText := true, laidKinds := [.data, .listed, .data, .pinned], laidTests := true, laidLooks := .later }
def BaseFormedCardSaid : Prop := Claim7.holds Tryz.pinned (.plain (OpenSpec.ofChange baseFormedSpec)) baseFormedCard

/-- THE SECOND FORM's CARD OF 'lazyclaw05.BaseFormed'. -/
def baseFormedUptoCard : Claim7 := { stood := { row := baseFormedUptoRow, standIns := [], harness := (true, "b53d77d647387cbf640d5df92034ce3e35ac149e8df71b9fe66384217e3d44d4"), looks := false }, kinds := [], alts := [], laidByText := true, laidKinds := [.data, .listed, .data, .pinned], laidTests := true, laidLooks := .later }
def BaseFormedUptoCardSaid : Prop := Claim7.holds Tryz.pinned (.plain (OpenSpec.upto baseFormedSpec)) baseFormedUptoCard
end Rows
end Go.Proofs.YtmehknlijcbphaaGreatDoor
