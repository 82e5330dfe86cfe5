/- The contracts of the functions that go through a tree: size, depth, of the program and of the reference. -/
import Derived.Test.YtpamfjbgnpmmoaaGreatDoorLeaf
import Derived.Lib.Hide
namespace Go.Proofs.YtpamfjbgnpmmoaaGreatDoor
open Go.RowKit

set_option maxRecDepth 100000 in
set_option maxHeartbeats 400000 in
theorem isAtom_any (s : ByteArray) (a : Option Addr) (l c : Nat) (w : World) :
    Calls Tryz.prog 50 #[.agg #[.string s, .slice a l c]] w fun e w' => e = .returned (.bool ((l : Int) == 0)) ∧ Below w.heap.size w w' := by
  go_enter Tryz.func50, Tryz.ntmps50
  go_wp2
  go_ret
  exact ⟨rfl, (Below.refl _ _).alloc (Nat.le_refl _) _⟩





end Go.Proofs.YtpamfjbgnpmmoaaGreatDoor
