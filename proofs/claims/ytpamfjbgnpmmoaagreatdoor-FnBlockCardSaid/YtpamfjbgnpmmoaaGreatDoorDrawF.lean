/- The drawing of forms. -/
import Derived.Test.YtpamfjbgnpmmoaaGreatDoorDraw
namespace Go.Proofs.YtpamfjbgnpmmoaaGreatDoor
open Go.RowKit

/-- What a drawing of a text of at most N bytes hands back, if it asks at most K times. -/
def DR (N K : Nat) (w : World) (rb p : Nat) (e : Ending) (w' : World) : Prop :=
  ∃ s p', e = .returned (.string s) ∧ s.size ≤ N ∧ Rd w' rb p' ∧ p' ≤ p + K ∧ w.grownBy w' (some rb)

theorem grownBy_alloc {w w1 : World} {row : Option Nat} (h : w.grownBy w1 row) (o : Obj) : w.grownBy (w1.alloc o) row :=
  grownBy_trans h (grownBy_below ((Below.refl _ _).alloc (Nat.le_refl _) o))

/-- All of them are texts that P holds of. -/
def AllTexts (P : ByteArray → Prop) : List Value → Prop
  | [] => True
  | v :: vs => (∃ s, v = .string s ∧ P s) ∧ AllTexts P vs

theorem AllTexts.at {P : ByteArray → Prop} : ∀ (vs : List Value), AllTexts P vs → ∀ i, i < vs.length → ∃ s, P s ∧ vs[i]? = some (.string s)
  | [], _, i, hi => by simp at hi
  | v :: vs, ⟨⟨s, hv, hs⟩, h⟩, i, hi => by
    cases i with
    | zero => exact ⟨s, hs, by simp [hv]⟩
    | succ i => simpa using AllTexts.at vs h i (by simpa using hi)

theorem textRow_new {P : ByteArray → Prop} (w : World) (vs : List Value) (ty : TypeId) (h : AllTexts P vs) : TextRow P (w.alloc (.cells vs.toArray ty)) w.heap.size vs.length := by
  intro i hi
  obtain ⟨s, hs, hv⟩ := h.at vs i hi
  refine ⟨s, hs, ?_⟩
  simp only [World.cell?, heap_alloc_new]
  simpa using hv

theorem size1 (c : UInt8) : (ByteArray.mk #[c]).size = 1 := rfl





/-- What a drawing of one text out of a code hands back. -/
def DrawnR (N : Nat) (w : World) (e : Ending) (w' : World) : Prop := ∃ s, e = .returned (.string s) ∧ s.size ≤ N ∧ Below w.heap.size w w'





end Go.Proofs.YtpamfjbgnpmmoaaGreatDoor
