/- The contracts of the order of a type, of the program and of the reference. -/
import Derived.Test.YtoihkjnfklogpaaType
import Derived.Deep.RegionHeld3
import Derived.Deep.RegionWith
namespace Go.Proofs.Ytoihkjnfklogpaa
open Go.RowKit

theorem isType_cases {a : ByteArray} {ps : List Tree} (h : (Tree.node a ps).isType = true) : ps = [] ∨ ∃ p x y, ps = [p, x, y] ∧ x.isType = true ∧ y.isType = true ∧ (p.atom.data.toList = [62] ∨ p.atom.data.toList = [42]) := by
  match ps, h with
  | [], _ => exact .inl rfl
  | [_], h => simp [Tree.isType] at h
  | [_, _], h => simp [Tree.isType] at h
  | [p, x, y], h => simp [Tree.isType] at h; exact .inr ⟨p, x, y, rfl, h.1.2, h.2, h.1.1⟩
  | _ :: _ :: _ :: _ :: _, h => simp [Tree.isType] at h

theorem order_le (n : Nat) : ∀ t : Tree, t.sz ≤ n → t.order ≤ t.sz := by
  induction n with
  | zero => intro t h; cases t; simp [Tree.sz] at h
  | succ n ih =>
    intro t h
    obtain ⟨a, ps⟩ := t
    match ps, h with
    | [], _ => simp [Tree.order]
    | [_], _ => simp [Tree.order]
    | [_, _], _ => simp [Tree.order]
    | [p, x, y], h =>
      simp only [Tree.sz, Tree.szL] at h
      have h1 := ih x (by omega)
      have h2 := ih y (by omega)
      simp only [Tree.order, Tree.sz, Tree.szL]
      split <;> omega
    | _ :: _ :: _ :: _ :: _, _ => simp [Tree.order]


/-- A text that is a type. -/
def ptype (s : List UInt8) : Option Tree := match parse s with | some t => if t.typed then some t else none | none => none

theorem ptype_some {s : List UInt8} {t : Tree} : ptype s = some t ↔ parse s = some t ∧ t.typed = true := by
  unfold ptype
  cases h : parse s with
  | none => simp
  | some t' =>
    by_cases ht : t'.typed = true
    · simp only [ht, if_true, Option.some.injEq]
      constructor
      · rintro rfl; exact ⟨rfl, ht⟩
      · exact fun h => h.1
    · simp only [ht, if_false, Option.some.injEq, Bool.false_eq_true]
      constructor
      · intro h; cases h
      · rintro ⟨rfl, h⟩; exact absurd h ht

set_option maxRecDepth 100000 in
set_option maxHeartbeats 400000 in
theorem typed_any (t : Tree) (A : Nat → Prop) (v : Value) (w : World) (hr : Rep w A t v) (hb : t.sz ≤ 1000000000) :
    Calls Try.prog 110 #[v] w fun e w' => e = .returned (.bool t.typed) ∧ Below w.heap.size w w' := by
  have HT := Lib.hid (fun v w hr => isType_any _ t A v w (Nat.le_refl _) hr hb)
  have HZ := Lib.hid (fun v w hr => size_any _ t A v w (Nat.le_refl _) hr hb)
  have hsz := Tree.size_le_sz t
  have hd : t.typed = (t.isType && decide ((t.size : Int) ≤ 16)) := by unfold Tree.typed; rw [Bool.eq_iff_iff]; simp; omega
  rw [hd]
  clear hd
  generalize t.isType = b at *
  generalize t.size = z at *
  obtain ⟨s, ps⟩ := t
  have hr' := hr
  simp only [Rep] at hr
  obtain ⟨o, l, c, rfl, hs, hcap⟩ := hr
  obtain rfl := hs.len
  have B0 := boxed0 w (.string s) (.slice o ps.length c) 46
  go_enter Try.func110, Try.ntmps110
  go_wp2_with fail
  refine (HT.out _ _ (Rep.keep (Keeps.alloc _ _ _) _ _ hr')).mono ?_
  rintro e w1 ⟨rfl, hb1⟩
  have B1 := Below.next B0 hb1; obtain ⟨x1, y1, hB1, hl1⟩ := boxed B1; clear hb1
  cases b
  · go_wp2
    go_ret
    exact ⟨rfl, hB1⟩
  · go_wp2_with fail
    refine (HZ.out _ _ (Rep.keep (Keeps.below hB1) _ _ hr')).mono ?_
    rintro e w2 ⟨rfl, hb2⟩
    have B2 := Below.next B1 hb2; obtain ⟨x2, y2, hB2, hl2⟩ := boxed B2; clear hb2
    go_wp2
    go_ret
    exact ⟨rfl, hB2⟩

end Go.Proofs.Ytoihkjnfklogpaa
