/- The contracts of the functions on forms, of the program and of the reference. -/
import Derived.Test.YtpamfjbgnpmmoaaGreatDoorSRead
import Derived.Test.YtpamfjbgnpmmoaaGreatDoorTree
namespace Go.Proofs.YtpamfjbgnpmmoaaGreatDoor
open Go.RowKit



def numOf (f : Tree → Nat) : Option Tree → Int | some t => (f t : Int) | none => -1





end Go.Proofs.YtpamfjbgnpmmoaaGreatDoor
