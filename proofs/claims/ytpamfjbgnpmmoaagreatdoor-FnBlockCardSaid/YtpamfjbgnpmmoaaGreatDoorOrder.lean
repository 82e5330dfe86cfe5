/- The contracts of the order of a type, of the program and of the reference. -/
import Derived.Test.YtpamfjbgnpmmoaaGreatDoorType
import Derived.Deep.RegionHeld3
import Derived.Deep.RegionWith
namespace Go.Proofs.YtpamfjbgnpmmoaaGreatDoor
open Go.RowKit

theorem isType_cases {a : ByteArray} {ps : List Tree} (h : (Tree.node a ps).isType = true) : ps = [] ∨ ∃ p x y, ps = [p, x, y] ∧ x.isType = true ∧ y.isType = true ∧ (p.atom.data.toList = [62] ∨ p.atom.data.toList = [42]) := by
  match ps, h with
  | [], _ => exact .inl rfl
  | [_], h => simp [Tree.isType] at h
  | [_, _], h => simp [Tree.isType] at h
  | [p, x, y], h => simp [Tree.isType] at h; exact .inr ⟨p, x, y, rfl, h.1.2, h.2, h.1.1⟩
  | _ :: _ :: _ :: _ :: _, h => simp [Tree.isType] at h

theorem order_le (n : Nat) : ∀ t : Tree, t.sz ≤ n → t.order ≤ t.sz := by
  induction n with
  | zero => intro t h; cases t; simp [Tree.sz] at h
  | succ n ih =>
    intro t h
    obtain ⟨a, ps⟩ := t
    match ps, h with
    | [], _ => simp [Tree.order]
    | [_], _ => simp [Tree.order]
    | [_, _], _ => simp [Tree.order]
    | [p, x, y], h =>
      simp only [Tree.sz, Tree.szL] at h
      have h1 := ih x (by omega)
      have h2 := ih y (by omega)
      simp only [Tree.order, Tree.sz, Tree.szL]
      split <;> omega
    | _ :: _ :: _ :: _ :: _, _ => simp [Tree.order]


/-- A text that is a type. -/
def ptype (s : List UInt8) : Option Tree := match parse s with | some t => if t.typed then some t else none | none => none

theorem ptype_some {s : List UInt8} {t : Tree} : ptype s = some t ↔ parse s = some t ∧ t.typed = true := by
  unfold ptype
  cases h : parse s with
  | none => simp
  | some t' =>
    by_cases ht : t'.typed = true
    · simp only [ht, if_true, Option.some.injEq]
      constructor
      · rintro rfl; exact ⟨rfl, ht⟩
      · exact fun h => h.1
    · simp only [ht, if_false, Option.some.injEq, Bool.false_eq_true]
      constructor
      · intro h; cases h
      · rintro ⟨rfl, h⟩; exact absurd h ht


end Go.Proofs.YtpamfjbgnpmmoaaGreatDoor
