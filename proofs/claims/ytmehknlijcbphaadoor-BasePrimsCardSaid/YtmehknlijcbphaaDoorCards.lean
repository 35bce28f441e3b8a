/-
  DERIVED. GIVEN WITH THE SEED: THE CARDS: each row of YtmehknlijcbphaaDoorRows.lean that lists a variable, with what it lists TIED to the program's text (the seventh form; the later family's looks); each row that meets fmt, with fmt's text TOLD by the authors' own Lean function (tested against real Go, not proved from fmt's source: count such statements apart). THE CARD IS WHAT COUNTS. Prove the row's statement (the work); the ties are given (YtmehknlijcbphaaDoorTie.lean); close each card by the builder's one call (the guide's Derived/Test/ToyasCard.lean, 'card_holds'). Laid BY PROGRAM, IN A SANDBOX (cutbox-door.mjs). By AI agents, Wed Nov 11 2026. No macro, syntax, notation, axiom, sorry.
-/
import Derived.Test.YtmehknlijcbphaaDoorRows
import GoSem.ClaimSeven
namespace Go.Proofs.YtmehknlijcbphaaDoor
namespace Rows

/-- THE TIED CARD OF 'lazyclaw05.BaseNames'. -/
def baseNamesCard : Claim7 := { stood := { row := baseNamesRow, standIns := [], harness := (true, "54be70d82550d9e65c13edae29deff7566e2ef5db15351616cdc98828e84822d"), looks := false }, kinds := [], alts := [], laidByText := true, laidKinds := [.data, .listed, .data, .pinned], laidTests := true, laidLooks := .later }
def BaseNamesCardSaid : Prop := Claim7.holds Tryd.pinned (.plain (OpenSpec.ofChange baseNamesSpec)) baseNamesCard

/-- THE TIED CARD OF 'lazyclaw05.BaseArith'. -/
def baseArithCard : Claim7 := { stood := { row := baseArithRow, standIns := [], harness := (true, "54be70d82550d9e65c13edae29deff7566e2ef5db15351616cdc98828e84822d"), looks := false }, kinds := [], alts := [], laidByText := true, laidKinds := [.data, .listed, .data, .pinned], laidTests := true, laidLooks := .later }
def BaseArithCardSaid : Prop := Claim7.holds Tryd.pinned (.plain (OpenSpec.ofChange baseArithSpec)) baseArithCard

/-- THE TIED CARD OF 'lazyclaw05.BaseOrder'. -/
def baseOrderCard : Claim7 := { stood := { row := baseOrderRow, standIns := [], harness := (true, "54be70d82550d9e65c13edae29deff7566e2ef5db15351616cdc98828e84822d"), looks := false }, kinds := [], alts := [], laidByText := true, laidKinds := [.data, .listed, .data, .pinned], laidTests := true, laidLooks := .later }
def BaseOrderCardSaid : Prop := Claim7.holds Tryd.pinned (.plain (OpenSpec.ofChange baseOrderSpec)) baseOrderCard

/-- THE TIED CARD OF 'lazyclaw05.BasePrims'. -/
def basePrimsCard : Claim7 := { stood := { row := basePrimsRow, standIns := [], harness := (true, "54be70d82550d9e65c13edae29deff7566e2ef5db15351616cdc98828e84822d"), looks := false }, kinds := [], alts := [], laidByText := true, laidKinds := [.data, .listed, .data, .pinned], laidTests := true, laidLooks := .later }
def BasePrimsCardSaid : Prop := Claim7.holds Tryd.pinned (.plain (OpenSpec.ofChange basePrimsSpec)) basePrimsCard

/-- THE TIED CARD OF 'lazyclaw05.BaseEnv'. -/
def baseEnvCard : Claim7 := { stood := { row := baseEnvRow, standIns := [], harness := (true, "54be70d82550d9e65c13edae29deff7566e2ef5db15351616cdc98828e84822d"), looks := false }, kinds := [], alts := [], laidByText := true, laidKinds := [.data, .listed, .data, .pinned], laidTests := true, laidLooks := .later }
def BaseEnvCardSaid : Prop := Claim7.holds Tryd.pinned (.plain (OpenSpec.ofChange baseEnvSpec)) baseEnvCard

/-- THE SECOND FORM's CARD OF 'lazyclaw05.BaseNames'. -/
def baseNamesUptoCard : Claim7 := { stood := { row := baseNamesUptoRow, standIns := [], harness := (true, "54be70d82550d9e65c13edae29deff7566e2ef5db15351616cdc98828e84822d"), looks := false }, kinds := [], alts := [], laidByText := true, laidKinds := [.data, .listed, .data, .pinned], laidTests := true, laidLooks := .later }
def BaseNamesUptoCardSaid : Prop := Claim7.holds Tryd.pinned (.plain (OpenSpec.upto baseNamesSpec)) baseNamesUptoCard

/-- THE SECOND FORM's CARD OF 'lazyclaw05.BaseArith'. -/
def baseArithUptoCard : Claim7 := { stood := { row := baseArithUptoRow, standIns := [], harness := (true, "54be70d82550d9e65c13edae29deff7566e2ef5db15351616cdc98828e84822d"), looks := false }, kinds := [], alts := [], laidByText := true, laidKinds := [.data, .listed, .data, .pinned], laidTests := true, laidLooks := .later }
def BaseArithUptoCardSaid : Prop := Claim7.holds Tryd.pinned (.plain (OpenSpec.upto baseArithSpec)) baseArithUptoCard

/-- THE SECOND FORM's CARD OF 'lazyclaw05.BaseOrder'. -/
def baseOrderUptoCard : Claim7 := { stood := { row := baseOrderUptoRow, standIns := [], harness := (true, "54be70d82550d9e65c13edae29deff7566e2ef5db15351616cdc98828e84822d"), looks := false }, kinds := [], alts := [], laidByText := true, laidKinds := [.data, .listed, .data, .pinned], laidTests := true, laidLooks := .later }
def BaseOrderUptoCardSaid : Prop := Claim7.holds Tryd.pinned (.plain (OpenSpec.upto baseOrderSpec)) baseOrderUptoCard

/-- THE SECOND FORM's CARD OF 'lazyclaw05.BasePrims'. -/
def basePrimsUptoCard : Claim7 := { stood := { row := basePrimsUptoRow, standIns := [], harness := (true, "54be70d82550d9e65c13edae29deff7566e2ef5db15351616cdc98828e84822d"), looks := false }, kinds := [], alts := [], laidByText := true, laidKinds := [.data, .listed, .data, .pinned], laidTests := true, laidLooks := .later }
def BasePrimsUptoCardSaid : Prop := Claim7.holds Tryd.pinned (.plain (OpenSpec.upto basePrimsSpec)) basePrimsUptoCard

/-- THE SECOND FORM's CARD OF 'lazyclaw05.BaseEnv'. -/
def baseEnvUptoCard : Claim7 := { stood := { row := baseEnvUptoRow, standIns := [], harness := (true, "54be70d82550d9e65c13edae29deff7566e2ef5db15351616cdc98828e84822d"), looks := false }, kinds := [], alts := [], laidByText := true, laidKinds := [.data, .listed, .data, .pinned], laidTests := true, laidLooks := .later }
def BaseEnvUptoCardSaid : Prop := Claim7.holds Tryd.pinned (.plain (OpenSpec.upto baseEnvSpec)) baseEnvUptoCard
end Rows
end Go.Proofs.YtmehknlijcbphaaDoor
