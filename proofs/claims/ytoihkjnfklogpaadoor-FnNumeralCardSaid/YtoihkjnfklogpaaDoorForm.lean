/- The contracts of the functions on forms, of the program and of the reference. -/
import Derived.Test.YtoihkjnfklogpaaDoorSRead
import Derived.Test.YtoihkjnfklogpaaDoorTree
namespace Go.Proofs.YtoihkjnfklogpaaDoor
open Go.RowKit



def numOf (f : Tree → Nat) : Option Tree → Int | some t => (f t : Int) | none => -1





end Go.Proofs.YtoihkjnfklogpaaDoor
