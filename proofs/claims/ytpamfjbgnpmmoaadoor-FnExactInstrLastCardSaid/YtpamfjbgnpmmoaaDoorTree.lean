/- The contracts of the functions that go through a tree: size, depth, of the program and of the reference. -/
import Derived.Test.YtpamfjbgnpmmoaaDoorLeaf
import Derived.Lib.Hide
namespace Go.Proofs.YtpamfjbgnpmmoaaDoor
open Go.RowKit

set_option maxRecDepth 100000 in
set_option maxHeartbeats 400000 in
theorem isAtom_any (s : ByteArray) (a : Option Addr) (l c : Nat) (w : World) :
    Calls Tryd.prog 36 #[.agg #[.string s, .slice a l c]] w fun e w' => e = .returned (.bool ((l : Int) == 0)) ∧ Below w.heap.size w w' := by
  go_enter Tryd.func36, Tryd.ntmps36
  go_wp2
  go_ret
  exact ⟨rfl, (Below.refl _ _).alloc (Nat.le_refl _) _⟩





end Go.Proofs.YtpamfjbgnpmmoaaDoor
