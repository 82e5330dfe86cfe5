/- Expressions: the reference's reader, of texts. -/
import Derived.Test.YtoihkjnfklogpaaDoorSExpr
namespace Go.Proofs.YtoihkjnfklogpaaDoor
open Go.RowKit


end Go.Proofs.YtoihkjnfklogpaaDoor
