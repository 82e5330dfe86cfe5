/- Writing a form: the reference's l1Text, the program's write and text, each by recursion, for every tree. -/
import Derived.Test.YtoihkjnfklogpaaDoorProg
import Derived.Test.YtoihkjnfklogpaaDoorShelf
import Derived.Test.YtoihkjnfklogpaaDoorPlainT
import Derived.Test.YtoihkjnfklogpaaDoorRow
import Derived.Test.YtoihkjnfklogpaaDoorTree
import Derived.Test.YtoihkjnfklogpaaDoorAtoms
import Derived.WalkKit
import Derived.WalkSpells
import Derived.WalkLawsBesides
import Derived.IntWalk
import Derived.OwnWalk
import Derived.Lib.Strings
import Derived.Lib.Hide
namespace Go.Proofs.YtoihkjnfklogpaaDoor
open Go.RowKit


end Go.Proofs.YtoihkjnfklogpaaDoor
