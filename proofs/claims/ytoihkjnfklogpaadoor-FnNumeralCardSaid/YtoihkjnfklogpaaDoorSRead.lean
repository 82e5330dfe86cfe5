/- The contract of the reference's reader: it reads what 'rdT' reads, from a place of the text on. -/
import Derived.Test.YtoihkjnfklogpaaDoorRead
namespace Go.Proofs.YtoihkjnfklogpaaDoor
open Go.RowKit

end Go.Proofs.YtoihkjnfklogpaaDoor
