/- The bindings at the beginning of an expression. No program is in sight. -/
import Derived.Test.YtoihkjnfklogpaaPlainG
namespace Go.Proofs.Ytoihkjnfklogpaa

/-- The names that are bound one behind the other, and what stands behind them. -/
def Tree.pathN (t : Tree) : List ByteArray :=
  if h : t.parts = [] then [] else if t.hd.data.toList = [108, 101, 116] then (nth t.parts 1).atom :: Tree.pathN (nth t.parts 3) else []
termination_by t.sz
decreasing_by exact nth_sz h _
def Tree.pathE (t : Tree) : Tree :=
  if h : t.parts = [] then t else if t.hd.data.toList = [108, 101, 116] then Tree.pathE (nth t.parts 3) else t
termination_by t.sz
decreasing_by exact nth_sz h _

theorem hd_leaf {t : Tree} (h : t.parts = []) : t.hd.data.toList = [] := by
  obtain ⟨a, ps⟩ := t
  simp only [Tree.parts] at h
  subst h
  simp [Tree.hd]
theorem pathN_let {t : Tree} (hl : t.hd.data.toList = [108, 101, 116]) : t.pathN = (nth t.parts 1).atom :: Tree.pathN (nth t.parts 3) := by
  have h : t.parts ≠ [] := fun h => by rw [hd_leaf h] at hl; cases hl
  rw [Tree.pathN]; rw [dif_neg h, if_pos hl]
theorem pathN_rest {t : Tree} (hl : t.hd.data.toList ≠ [108, 101, 116]) : t.pathN = [] := by
  rw [Tree.pathN]
  by_cases h : t.parts = []
  · rw [dif_pos h]
  · rw [dif_neg h, if_neg hl]
theorem pathE_let {t : Tree} (hl : t.hd.data.toList = [108, 101, 116]) : t.pathE = Tree.pathE (nth t.parts 3) := by
  have h : t.parts ≠ [] := fun h => by rw [hd_leaf h] at hl; cases hl
  rw [Tree.pathE]; rw [dif_neg h, if_pos hl]
theorem pathE_rest {t : Tree} (hl : t.hd.data.toList ≠ [108, 101, 116]) : t.pathE = t := by
  rw [Tree.pathE]
  by_cases h : t.parts = []
  · rw [dif_pos h]
  · rw [dif_neg h, if_neg hl]
theorem pathN_len (n : Nat) : ∀ t : Tree, t.sz ≤ n → t.pathN.length ≤ t.sz := by
  induction n with
  | zero => intro t h; cases t; simp [Tree.sz] at h
  | succ n ih =>
    intro t h
    by_cases hl : t.hd.data.toList = [108, 101, 116]
    · have hp : t.parts ≠ [] := fun h => by rw [hd_leaf h] at hl; cases hl
      have h1 := nth_sz hp 3
      have h2 := ih (nth t.parts 3) (by omega)
      rw [pathN_let hl, List.length_cons]; omega
    · rw [pathN_rest hl]; simp
end Go.Proofs.Ytoihkjnfklogpaa
