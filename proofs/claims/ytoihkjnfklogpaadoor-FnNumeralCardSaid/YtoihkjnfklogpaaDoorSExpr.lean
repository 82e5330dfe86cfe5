/- Expressions: the reference's reader. -/
import Derived.Test.YtoihkjnfklogpaaDoorKids
import Derived.Test.YtoihkjnfklogpaaDoorName
import Derived.Test.YtoihkjnfklogpaaDoorSType
import Derived.Test.YtoihkjnfklogpaaDoorMake
import Derived.Deep.RegionHeld3
import Derived.Deep.QuietTactic
namespace Go.Proofs.YtoihkjnfklogpaaDoor
open Go.RowKit

theorem atom_le {t : Tree} (h : t.good = true) : t.atom.size ≤ t.text.length := by
  obtain ⟨a, ps⟩ := t
  cases ps with
  | nil => rw [text_leaf, size_data]; exact Nat.le_refl _
  | cons p ps =>
    have hge := (Tree.good_parts h).2
    have h0 : a.data.toList = [] := Classical.byContradiction fun h => absurd (hge.2 h) (by simp)
    rw [size_data]
    show a.data.toList.length ≤ _
    rw [h0]
    exact Nat.zero_le _

end Go.Proofs.YtoihkjnfklogpaaDoor
