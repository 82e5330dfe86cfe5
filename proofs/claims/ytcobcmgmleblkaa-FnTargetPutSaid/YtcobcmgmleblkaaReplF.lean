/- FormReplace of the program and of the reference. -/
import Derived.Test.YtcobcmgmleblkaaPlainU
namespace Go.Proofs.Ytcobcmgmleblkaa
open Go.RowKit

/-- What a function that hands back a text and whether it has one hands back. -/
def StrR (res : Option ByteArray) (w : World) (e : Ending) (w' : World) : Prop :=
  e = .returned (.tuple #[.string (res.getD ⟨#[]⟩), .bool res.isSome]) ∧ Below w.heap.size w w'



end Go.Proofs.Ytcobcmgmleblkaa
