/- Both types of a type of functions or of pairs: of the program and of the reference. -/
import Derived.Test.YtcobcmgmleblkaaMake
import Derived.Test.YtcobcmgmleblkaaOrder
import Derived.Test.YtcobcmgmleblkaaSType
import Derived.Deep.RegionHeld3
namespace Go.Proofs.Ytcobcmgmleblkaa
open Go.RowKit

/-- Both sides of a type with a sign. -/
def sideT (t : Tree) (h : List UInt8) : Option (Tree × Tree) := match t with
  | .node _ [p, x, y] => if p.atom.data.toList = h then some (x, y) else none
  | _ => none
def sidesOf (s h : List UInt8) : Option (Tree × Tree) := (ptype s).bind fun t => sideT t h

/-- What a function that hands back two texts and whether it has them hands back. -/
def TwoR (res : Option (Tree × Tree)) (w : World) (e : Ending) (w' : World) : Prop :=
  e = .returned (.tuple #[.string ((res.map fun x => x.1.txt).getD ⟨#[]⟩), .string ((res.map fun x => x.2.txt).getD ⟨#[]⟩), .bool res.isSome]) ∧ Below w.heap.size w w'

theorem sideT_iff {t : Tree} {h : List UInt8} {x y : Tree} : sideT t h = some (x, y) ↔ ∃ a p, t = .node a [p, x, y] ∧ p.atom.data.toList = h := by
  unfold sideT
  split
  · rename_i a p x' y'
    by_cases hp : p.atom.data.toList = h
    · rw [if_pos hp]
      constructor
      · intro e; simp at e; obtain ⟨rfl, rfl⟩ := e; exact ⟨a, p, rfl, hp⟩
      · rintro ⟨a', p', e, -⟩; simp at e; obtain ⟨-, -, rfl, rfl⟩ := e; rfl
    · rw [if_neg hp]
      constructor
      · intro e; cases e
      · rintro ⟨a', p', e, h'⟩; simp at e; obtain ⟨-, rfl, -, -⟩ := e; exact absurd h' hp
  · rename_i hn
    constructor
    · intro e; cases e
    · rintro ⟨a, p, rfl, -⟩; exact absurd rfl (hn a p x y)

theorem sideT_none_of_len {t : Tree} {h : List UInt8} (hl : t.parts.length ≠ 3) : sideT t h = none := by
  cases e : sideT t h with
  | none => rfl
  | some z => obtain ⟨x, y⟩ := z; obtain ⟨a, p, rfl, -⟩ := sideT_iff.1 e; simp [Tree.parts] at hl




end Go.Proofs.Ytcobcmgmleblkaa
