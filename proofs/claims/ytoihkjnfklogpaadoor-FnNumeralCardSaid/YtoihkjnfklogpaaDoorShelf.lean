/- The contracts of the library on strings.Builder at this program: each is one application. -/
import Derived.Shelf.Strings.Builder1
import Derived.Shelf.Strings.BuilderF
import Derived.Shelf.Strings.BuilderK
import Derived.Test.YtoihkjnfklogpaaDoorProg
namespace Go.Proofs.YtoihkjnfklogpaaDoor
open Go.Shelf
open Go.RowKit
end Go.Proofs.YtoihkjnfklogpaaDoor
