/- The contracts of the functions on forms, of the program and of the reference. -/
import Derived.Test.YtcobcmgmleblkaaSRead
import Derived.Test.YtcobcmgmleblkaaTree
namespace Go.Proofs.Ytcobcmgmleblkaa
open Go.RowKit


set_option maxRecDepth 100000 in
set_option maxHeartbeats 400000 in
theorem sFormValid_any (s : ByteArray) (w : World) (hs : s.size ≤ 1000000000) :
    Calls Try.prog 60 #[.string s] w fun e w' => e = .returned (.bool (parse s.data.toList).isSome) ∧ Below w.heap.size w w' := by
  go_enter Try.func60, Try.ntmps60
  go_wp2_with (go_at_call 36; refine (l1Parse_any _ _ hs).mono ?_; rintro e w1 ⟨a, o, l, c, ok, t, rfl, hb1, hr, rfl, -⟩)
  go_ret
  exact ⟨rfl, hb1.alloc hb1.size _⟩

def numOf (f : Tree → Nat) : Option Tree → Int | some t => (f t : Int) | none => -1





end Go.Proofs.Ytcobcmgmleblkaa
