/- DrawF. DrawT. Several texts in one. -/
import Derived.Test.YtoihkjnfklogpaaDraw
/- The drawing of forms. -/
namespace Go.Proofs.Ytoihkjnfklogpaa
open Go.RowKit

/-- What a drawing of a text of at most N bytes hands back, if it asks at most K times. -/
def DR (N K : Nat) (w : World) (rb p : Nat) (e : Ending) (w' : World) : Prop :=
  ∃ s p', e = .returned (.string s) ∧ s.size ≤ N ∧ Rd w' rb p' ∧ p' ≤ p + K ∧ w.grownBy w' (some rb)

theorem grownBy_alloc {w w1 : World} {row : Option Nat} (h : w.grownBy w1 row) (o : Obj) : w.grownBy (w1.alloc o) row :=
  grownBy_trans h (grownBy_below ((Below.refl _ _).alloc (Nat.le_refl _) o))

/-- All of them are texts that P holds of. -/
def AllTexts (P : ByteArray → Prop) : List Value → Prop
  | [] => True
  | v :: vs => (∃ s, v = .string s ∧ P s) ∧ AllTexts P vs

theorem AllTexts.at {P : ByteArray → Prop} : ∀ (vs : List Value), AllTexts P vs → ∀ i, i < vs.length → ∃ s, P s ∧ vs[i]? = some (.string s)
  | [], _, i, hi => by simp at hi
  | v :: vs, ⟨⟨s, hv, hs⟩, h⟩, i, hi => by
    cases i with
    | zero => exact ⟨s, hs, by simp [hv]⟩
    | succ i => simpa using AllTexts.at vs h i (by simpa using hi)

theorem textRow_new {P : ByteArray → Prop} (w : World) (vs : List Value) (ty : TypeId) (h : AllTexts P vs) : TextRow P (w.alloc (.cells vs.toArray ty)) w.heap.size vs.length := by
  intro i hi
  obtain ⟨s, hs, hv⟩ := h.at vs i hi
  refine ⟨s, hs, ?_⟩
  simp only [World.cell?, heap_alloc_new]
  simpa using hv

theorem size1 (c : UInt8) : (ByteArray.mk #[c]).size = 1 := rfl





/-- What a drawing of one text out of a code hands back. -/
def DrawnR (N : Nat) (w : World) (e : Ending) (w' : World) : Prop := ∃ s, e = .returned (.string s) ∧ s.size ≤ N ∧ Below w.heap.size w w'





end Go.Proofs.Ytoihkjnfklogpaa

/- Drawing types. -/
namespace Go.Proofs.Ytoihkjnfklogpaa
open Go.RowKit

/-- How long a drawn type of a depth may be; how often its drawing asks. -/
def sizeT : Nat → Nat
  | 0 => 1
  | d + 1 => 2 * sizeT d + 5
def picksT : Nat → Nat
  | 0 => 0
  | d + 1 => 2 * picksT d + 2

theorem sizeT_le (d : Nat) (h : d ≤ 5) : 1 ≤ sizeT d ∧ sizeT d ≤ 200 ∧ picksT d ≤ 70 := by
  have : d = 0 ∨ d = 1 ∨ d = 2 ∨ d = 3 ∨ d = 4 ∨ d = 5 := by omega
  rcases this with rfl | rfl | rfl | rfl | rfl | rfl <;> decide

set_option maxRecDepth 100000 in
set_option maxHeartbeats 1600000 in
theorem l91Type_any (d : Nat) : ∀ (w : World) (rb p : Nat), d ≤ 5 → Rd w rb p → p + picksT d ≤ 1000000 →
    Calls Try.prog 93 #[.pointer (some ⟨rb, 0, none⟩), .int .i64 d] w (DR (sizeT d) (picksT d) w rb p) := by
  induction d with
  | zero =>
    intro w rb p hd h hp
    go_enter Try.func93, Try.ntmps93
    go_wp2
    go_ret
    exact ⟨_, p, rfl, by decide, h, by omega, grownBy_refl _ _⟩
  | succ d ih =>
    intro w rb p hd h hp
    simp only [picksT, sizeT] at hp ⊢
    have hdb : (((d + 1 : Nat) : Int) == 0) = false := by simp; omega
    have hdc : (((d + 1 : Nat) : Int)) - 1 = (d : Int) := by omega
    have hle := sizeT_le d (by omega)
    obtain ⟨hle0, hle1, hle2⟩ := hle
    have IH := Lib.hid ih
    clear ih
    go_enter Try.func93, Try.ntmps93
    go_wp2_with fail
    refine (pick_any w rb p 2 h (by omega) (by omega) (by omega)).mono ?_
    rintro e w1 ⟨z, rfl, hz0, hz1, hrd, hg⟩
    by_cases hz : z = 0
    · subst hz
      go_wp2
      go_ret
      exact ⟨_, _, rfl, Nat.le_trans hle0 (by omega), hrd, by omega, hg⟩
    · have hzb : (z == 0) = false := by simpa using hz
      have hlt := hrd.lt
      go_wp2_with fail
      refine (of_any (fun s => s.size ≤ 1) _ rb _ w1.heap.size 2 2 (hrd.alloc _) (by have := hrd.lt; omega) (by omega) (by omega) (by omega) ?_).mono ?_
      · refine textRow_new w1 _ _ ?_
        (repeat (first | exact trivial | (refine ⟨⟨_, rfl, ?_⟩, ?_⟩; · first | assumption | decide | (simp only [ByteArray.size]; decide))))
      · rintro e w2 ⟨sg, rfl, hsg, hrd2, hg2⟩
        have hg02 := grownBy_trans (grownBy_alloc hg _) hg2
        have h1 := IH.out w2 rb _ (by omega) hrd2 (by omega)
        go_wp2_with fail
        refine h1.mono ?_
        rintro e w3 ⟨s1, p1, rfl, hs1, hrd3, hp1, hg3⟩
        have h2 := IH.out w3 rb _ (by omega) hrd3 (by omega)
        have hsz1 : s1.size ≤ 500 := by omega
        go_wp2_with fail
        refine h2.mono ?_
        rintro e w4 ⟨s2, p2, rfl, hs2, hrd4, hp2, hg4⟩
        have hsz2 : s2.size ≤ 500 := by omega
        go_wp2
        go_ret
        exact ⟨_, p2, rfl, by simp only [ByteArray.size_append, size1]; omega, hrd4, by omega, grownBy_trans hg02 (grownBy_trans hg3 hg4)⟩







/-- What the drawing of a mark and two texts hands back. -/
def DrawnMR (N : Nat) (w : World) (e : Ending) (w' : World) : Prop := ∃ f a b, e = .returned (.tuple #[.bool f, .string a, .string b]) ∧ a.size ≤ N ∧ b.size ≤ N ∧ Below w.heap.size w w'
/-- What the drawing of three texts hands back. -/
def DrawnSR (N : Nat) (w : World) (e : Ending) (w' : World) : Prop := ∃ a b c, e = .returned (.tuple #[.string a, .string b, .string c]) ∧ a.size ≤ N ∧ b.size ≤ N ∧ c.size ≤ N ∧ Below w.heap.size w w'


end Go.Proofs.Ytoihkjnfklogpaa
