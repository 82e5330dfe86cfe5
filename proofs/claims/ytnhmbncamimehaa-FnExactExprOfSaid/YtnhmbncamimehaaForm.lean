/- The contracts of the functions on forms, of the program and of the reference. -/
import Derived.Test.YtnhmbncamimehaaSRead
import Derived.Test.YtnhmbncamimehaaTree
namespace Go.Proofs.Ytnhmbncamimehaa
open Go.RowKit



def numOf (f : Tree → Nat) : Option Tree → Int | some t => (f t : Int) | none => -1





end Go.Proofs.Ytnhmbncamimehaa
