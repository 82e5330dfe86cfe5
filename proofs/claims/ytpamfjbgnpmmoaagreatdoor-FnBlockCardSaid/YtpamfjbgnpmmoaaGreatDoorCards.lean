/-
  DERIVED. GIVEN WITH THE SEED: THE CARDS: each row of YtpamfjbgnpmmoaaGreatDoorRows.lean that lists a variable, with what it lists TIED to the program's text (the seventh form; the later family's looks); each row that meets fmt, with fmt's text TOLD by the authors' own Lean function (tested against real Go, not proved from fmt's source: count such statements apart). THE CARD IS WHAT COUNTS. Prove the row's statement (the work); the ties are given (YtpamfjbgnpmmoaaGreatDoorTie.lean); close each card by the builder's one call (the guide's Derived/Test/ToyasCard.lean, 'card_holds'). Laid BY PROGRAM, IN A SANDBOX (cutbox-door.mjs). By AI agents, Wed Nov 11 2026. No macro, syntax, notation, axiom, sorry.
-/
import Derived.Test.YtpamfjbgnpmmoaaGreatDoorRows
import GoSem.ClaimSeven
namespace Go.Proofs.YtpamfjbgnpmmoaaGreatDoor
namespace Rows

/-- THE TIED CARD OF 'laws.FnBlock'. -/
def fnBlockCard : Claim7 := { stood := { row := fnBlockRow, standIns := [], harness := (true, "4df2f63c48ee96e9a2ea38f9907e852304f25e8c71134c0c541795c7f4e69422"), looks := true }, kinds := [], alts := [], laidByText := true, laidKinds := [.data, .data, .data, .sentinel, .sentinel], laidTests := true, laidLooks := .later }
def FnBlockCardSaid : Prop := Claim7.holds Tryz.pinned (.plain (OpenSpec.ofChange fnBlockSpec)) fnBlockCard

/-- THE SECOND FORM's CARD OF 'laws.FnBlock'. -/
def fnBlockUptoCard : Claim7 := { stood := { row := fnBlockUptoRow, standIns := [], harness := (true, "4df2f63c48ee96e9a2ea38f9907e852304f25e8c71134c0c541795c7f4e69422"), looks := true }, kinds := [], alts := [], laidByText := true, laidKinds := [.data, .data, .data, .sentinel, .sentinel], laidTests := true, laidLooks := .later }
def FnBlockUptoCardSaid : Prop := Claim7.holds Tryz.pinned (.plain (OpenSpec.upto fnBlockSpec)) fnBlockUptoCard
end Rows
end Go.Proofs.YtpamfjbgnpmmoaaGreatDoor
