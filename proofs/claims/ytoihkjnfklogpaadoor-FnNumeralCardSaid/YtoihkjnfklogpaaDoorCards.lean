/-
  DERIVED. GIVEN WITH THE SEED: THE CARDS: each row of YtoihkjnfklogpaaDoorRows.lean that lists a variable, with what it lists TIED to the program's text (the seventh form; the later family's looks); each row that meets fmt, with fmt's text TOLD by the authors' own Lean function (tested against real Go, not proved from fmt's source: count such statements apart). THE CARD IS WHAT COUNTS. Prove the row's statement (the work); the ties are given (YtoihkjnfklogpaaDoorTie.lean); close each card by the builder's one call (the guide's Derived/Test/ToyasCard.lean, 'card_holds'). Laid BY PROGRAM, IN A SANDBOX (cutbox-door.mjs). By AI agents, Wed Nov 11 2026. No macro, syntax, notation, axiom, sorry.
-/
import Derived.Test.YtoihkjnfklogpaaDoorRows
import GoSem.ClaimSeven
namespace Go.Proofs.YtoihkjnfklogpaaDoor
namespace Rows

/-- THE TIED CARD OF 'laws.FnExactExprNumber'. -/
def fnExactExprNumberCard : Claim7 := { stood := { row := fnExactExprNumberRow, standIns := [], harness := (true, "84f34b45ff28ba90f1b628c6e620c38541f7e1df1678201da87695a1795b14c9"), looks := true }, kinds := [], alts := [], laidByText := true, laidKinds := [.data, .data, .data, .sentinel, .sentinel], laidTests := true, laidLooks := .later }
def FnExactExprNumberCardSaid : Prop := Claim7.holds Tryd.pinned (.plain (OpenSpec.ofChange fnExactExprNumberSpec)) fnExactExprNumberCard

/-- THE TIED CARD OF 'laws.FnNumeral'. -/
def fnNumeralCard : Claim7 := { stood := { row := fnNumeralRow, standIns := [], harness := (true, "84f34b45ff28ba90f1b628c6e620c38541f7e1df1678201da87695a1795b14c9"), looks := true }, kinds := [], alts := [], laidByText := true, laidKinds := [.data, .data, .data, .sentinel, .sentinel], laidTests := true, laidLooks := .later }
def FnNumeralCardSaid : Prop := Claim7.holds Tryd.pinned (.plain (OpenSpec.ofChange fnNumeralSpec)) fnNumeralCard

/-- THE SECOND FORM's CARD OF 'laws.FnExactExprNumber'. -/
def fnExactExprNumberUptoCard : Claim7 := { stood := { row := fnExactExprNumberUptoRow, standIns := [], harness := (true, "84f34b45ff28ba90f1b628c6e620c38541f7e1df1678201da87695a1795b14c9"), looks := true }, kinds := [], alts := [], laidByText := true, laidKinds := [.data, .data, .data, .sentinel, .sentinel], laidTests := true, laidLooks := .later }
def FnExactExprNumberUptoCardSaid : Prop := Claim7.holds Tryd.pinned (.plain (OpenSpec.upto fnExactExprNumberSpec)) fnExactExprNumberUptoCard

/-- THE SECOND FORM's CARD OF 'laws.FnNumeral'. -/
def fnNumeralUptoCard : Claim7 := { stood := { row := fnNumeralUptoRow, standIns := [], harness := (true, "84f34b45ff28ba90f1b628c6e620c38541f7e1df1678201da87695a1795b14c9"), looks := true }, kinds := [], alts := [], laidByText := true, laidKinds := [.data, .data, .data, .sentinel, .sentinel], laidTests := true, laidLooks := .later }
def FnNumeralUptoCardSaid : Prop := Claim7.holds Tryd.pinned (.plain (OpenSpec.upto fnNumeralSpec)) fnNumeralUptoCard
end Rows
end Go.Proofs.YtoihkjnfklogpaaDoor
