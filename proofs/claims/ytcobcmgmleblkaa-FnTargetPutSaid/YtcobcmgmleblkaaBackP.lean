/- How a form is cut whose type is asked for. -/
import Derived.Test.YtcobcmgmleblkaaPlainK
namespace Go.Proofs.Ytcobcmgmleblkaa
open Go.RowKit

theorem cut3_two (a : ByteArray) (p k : Tree) : (Tree.node a [p, k]).cut3 = match code4 (Tree.node a [p, k]).code with
    | some (x, k) => match code3 k.code with
      | some y => some (62, x, y)
      | none => none
    | none => none := rfl
theorem cut3_t (a : ByteArray) (p x y : Tree) (hp : p.atom.data.toList = [116]) : (Tree.node a [p, x, y]).cut3 = some (42, x, y) := by simp [Tree.cut3, hp]
theorem cut3_not (a : ByteArray) (p : Tree) (ps : List Tree) (h : p.atom.data.toList = [116] → ps.length ≠ 2) (he : ¬ p.atom.data.toList = [101]) : (Tree.node a (p :: ps)).cut3 = none := by
  unfold Tree.cut3
  split
  · rename_i heq
    simp only [Tree.node.injEq, List.cons.injEq] at heq
    obtain ⟨-, rfl, rfl⟩ := heq
    rw [if_neg fun h' => h h' rfl]
  · have : (Tree.node a (p :: ps)).code = [] := by
      unfold Tree.code
      split
      · rename_i heq
        simp only [Tree.node.injEq, List.cons.injEq] at heq
        obtain ⟨-, rfl, -⟩ := heq
        rw [if_neg fun h' => he h'.1]
      · rfl
    rw [this]; rfl

theorem len4 {l : List Tree} (h : l.length = 4) : ∃ a b c d, l = [a, b, c, d] := by
  match l, h with
  | [a, b, c, d], _ => exact ⟨a, b, c, d, rfl⟩
theorem len3 {l : List Tree} (h : l.length = 3) : ∃ a b c, l = [a, b, c] := by
  match l, h with
  | [a, b, c], _ => exact ⟨a, b, c, rfl⟩
theorem code4_none {l : List Tree} (h : ¬ l.length = 4) : code4 l = none := by
  unfold code4
  split
  · exact absurd rfl h
  · rfl
theorem code3_none {l : List Tree} (h : ¬ l.length = 3) : code3 l = none := by
  unfold code3
  split
  · exact absurd rfl h
  · rfl

theorem Rep.parts {w : World} {A : Nat → Prop} {s : ByteArray} {ps : List Tree} {a : ByteArray} {o : Option Addr} {l c : Nat} (h : Rep w A (.node s ps) (.agg #[.string a, .slice o l c])) : a = s ∧ l = ps.length ∧ RepS w A ps o ps.length ∧ ps.length ≤ c := by
  simp only [Rep] at h
  obtain ⟨o', l', c', he, hs, hc⟩ := h
  have hl := hs.len
  simp only [Value.agg.injEq, Array.mk.injEq, List.cons.injEq, Value.string.injEq, Value.slice.injEq, and_true] at he
  obtain ⟨rfl, rfl, rfl, rfl⟩ := he
  subst hl
  exact ⟨rfl, rfl, hs, hc⟩

end Go.Proofs.Ytcobcmgmleblkaa
