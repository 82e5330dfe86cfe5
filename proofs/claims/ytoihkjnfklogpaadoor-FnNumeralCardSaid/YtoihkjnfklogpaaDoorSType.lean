/- The contracts of the reference's functions on types. -/
import Derived.Test.YtoihkjnfklogpaaDoorOrder
namespace Go.Proofs.YtoihkjnfklogpaaDoor
open Go.RowKit




theorem ptype_isSome (s : List UInt8) : (ptype s).isSome = (match parse s with | some t => t.typed | none => false) := by
  unfold ptype
  cases parse s with
  | none => rfl
  | some t => cases h : t.typed <;> simp [h]




end Go.Proofs.YtoihkjnfklogpaaDoor
