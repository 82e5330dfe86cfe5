/- Replacing atoms of a form by a form: of the program (with its two functions that are handed on) and of the reference. -/
import Derived.Test.YtcobcmgmleblkaaMake
import Derived.Test.YtcobcmgmleblkaaRow2
import Derived.Test.YtcobcmgmleblkaaPlainS
import Derived.Deep.RegionHeld3
import Derived.Deep.RegionWith
import Derived.Deep.RegionLaw
namespace Go.Proofs.Ytcobcmgmleblkaa
open Go.RowKit

/-- A text is an atom, however long. -/
def isAtomL (l : List UInt8) : Bool := decide (l ≠ []) && l.all atomB



/-- What putting a form hands back. -/
def PutR (C : Nat → Prop) (t : Tree) (w : World) (e : Ending) (w' : World) : Prop :=
  ∃ a o l c, e = .returned (.agg #[.string a, .slice o l c]) ∧ Rep w' (fun b => C b ∨ w.heap.size ≤ b) t (.agg #[.string a, .slice o l c]) ∧ Below w.heap.size w w'


end Go.Proofs.Ytcobcmgmleblkaa
