/- How many expressions an expression and its parts are, of the program and of the reference. -/
import Derived.Test.YtoihkjnfklogpaaExprA
import Derived.Test.YtoihkjnfklogpaaPlainH
namespace Go.Proofs.Ytoihkjnfklogpaa
open Go.RowKit



/-- A number of an expression. -/
def numE (f : Tree → Nat) : Option Tree → Int | some t => (f t : Int) | none => -1


end Go.Proofs.Ytoihkjnfklogpaa
