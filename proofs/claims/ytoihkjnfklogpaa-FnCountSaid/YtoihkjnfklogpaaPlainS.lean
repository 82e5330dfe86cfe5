/- Sizes of forms against the lengths of their texts, and of the lists of their atoms. No program is in sight. -/
import Derived.Test.YtoihkjnfklogpaaAtoms
namespace Go.Proofs.Ytoihkjnfklogpaa
open Go.RowKit

mutual
theorem Tree.size_pos : ∀ t : Tree, 1 ≤ t.size
  | .node a ps => by
    have := Tree.sizeL_pos ps
    simp only [Tree.size]
    split
    · omega
    · rename_i h
      exact this (by intro e; subst e; simp at h)
theorem Tree.sizeL_pos : ∀ ps : List Tree, ps ≠ [] → 1 ≤ Tree.sizeL ps
  | [], h => absurd rfl h
  | p :: ps, _ => by
    have := Tree.size_pos p
    simp only [Tree.sizeL]; omega
end

mutual
theorem Tree.size_le_text : ∀ t : Tree, t.good = true → t.size ≤ t.text.length
  | .node a ps, h => by
    obtain ⟨h1, h2⟩ := Tree.good_parts h
    simp only [Tree.size, Tree.text]
    by_cases he : ps = []
    · subst he
      have : 0 < a.data.toList.length := List.length_pos_iff.2 (h2.1 rfl)
      simp only [List.isEmpty_nil, if_true]; omega
    · have hi : ps.isEmpty = false := by simpa using he
      have := Tree.sizeL_le_text ps he h1
      rw [hi]
      simp only [Bool.false_eq_true, if_false, List.length_cons]; omega
theorem Tree.sizeL_le_text : ∀ ps : List Tree, ps ≠ [] → Tree.goodL ps = true → Tree.sizeL ps ≤ (Tree.textL ps).length
  | [], h, _ => absurd rfl h
  | p :: ps, _, hg => by
    simp only [Tree.goodL, Bool.and_eq_true] at hg
    have h1 := Tree.size_le_text p hg.1
    rw [textL_cons]
    simp only [Tree.sizeL]
    by_cases he : ps = []
    · subst he; simp [Tree.sizeL]; omega
    · have hi : ps.isEmpty = false := by simpa using he
      have h2 := Tree.sizeL_le_text ps he hg.2
      rw [hi]; simp; omega
end

theorem addS_ge (l : List ByteArray) (s : ByteArray) : l.length ≤ (addS l s).length ∧ 1 ≤ (addS l s).length := by
  unfold addS
  split
  · rename_i h
    refine ⟨Nat.le_refl _, ?_⟩
    cases l with
    | nil => simp [hasS] at h
    | cons => simp
  · simp

theorem foldAdd_ge (m l : List ByteArray) : l.length ≤ (m.foldl addS l).length := by
  induction m generalizing l with
  | nil => exact Nat.le_refl _
  | cons s m ih => exact Nat.le_trans (addS_ge l s).1 (ih _)

theorem foldAdd_pos (m : List ByteArray) (h : 1 ≤ m.length) : 1 ≤ (m.foldl addS []).length := by
  cases m with
  | nil => simp at h
  | cons s m => exact Nat.le_trans (addS_ge [] s).2 (foldAdd_ge m _)

theorem parse_size {s : List UInt8} {t : Tree} (h : parse s = some t) : 1 ≤ t.size ∧ t.size ≤ s.length := by
  obtain ⟨rfl, hg, _, _⟩ := (parse_iff _ _).1 h
  exact ⟨t.size_pos, t.size_le_text hg⟩

theorem atoms_between {s : List UInt8} {t : Tree} (h : parse s = some t) : ∃ l, atomsOf s = some l ∧ 1 ≤ l.length ∧ l.length ≤ t.size := by
  refine ⟨t.atoms.foldl addS [], by unfold atomsOf; rw [h]; rfl, ?_, ?_⟩
  · exact foldAdd_pos _ (by rw [Tree.atoms_le]; exact (parse_size h).1)
  · have := foldAdd_len t.atoms []
    have := Tree.atoms_le t
    simp at *; omega
end Go.Proofs.Ytoihkjnfklogpaa
