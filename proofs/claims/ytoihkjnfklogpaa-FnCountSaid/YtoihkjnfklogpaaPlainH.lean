/- Sums over the parts that are expressions, piece by piece. No program is in sight. -/
import Derived.Test.YtoihkjnfklogpaaPlainG
namespace Go.Proofs.Ytoihkjnfklogpaa

/-- What has been counted behind the first m kids. -/
def Tree.manyTo (t : Tree) (m : Nat) : Nat := 1 + ((t.kidL.take m).map Tree.many).sum
theorem manyTo_zero (t : Tree) : t.manyTo 0 = 1 := by simp [Tree.manyTo]
theorem manyTo_succ {t q : Tree} {m : Nat} (h : t.kidL[m]? = some q) : t.manyTo (m + 1) = t.manyTo m + q.many := by
  unfold Tree.manyTo; rw [sum_map_take _ _ _ _ h]; omega
theorem manyTo_end {t : Tree} {m : Nat} (h : t.kidL.length ≤ m) : t.manyTo m = t.many := by
  unfold Tree.manyTo; rw [List.take_of_length_le h, Tree.many_eq]
theorem manyTo_le (t : Tree) (m : Nat) : t.manyTo m ≤ t.sz := by
  have h1 := sum_map_take_le Tree.many t.kidL m
  have h2 := Tree.many_eq t
  have h3 := Tree.many_le _ t (Nat.le_refl _)
  unfold Tree.manyTo; omega

def Tree.letsTo (t : Tree) (m : Nat) : Nat := (if t.hd.data.toList = [108, 101, 116] then 1 else 0) + ((t.kidL.take m).map Tree.lets).sum
theorem letsTo_zero (t : Tree) : t.letsTo 0 = if t.hd.data.toList = [108, 101, 116] then 1 else 0 := by simp [Tree.letsTo]
theorem letsTo_succ {t q : Tree} {m : Nat} (h : t.kidL[m]? = some q) : t.letsTo (m + 1) = t.letsTo m + q.lets := by
  unfold Tree.letsTo; rw [sum_map_take _ _ _ _ h]; omega
theorem letsTo_end {t : Tree} {m : Nat} (h : t.kidL.length ≤ m) : t.letsTo m = t.lets := by
  unfold Tree.letsTo; rw [List.take_of_length_le h, Tree.lets_eq]
theorem letsTo_le (t : Tree) (m : Nat) : t.letsTo m ≤ t.sz := by
  have h1 := sum_map_take_le Tree.lets t.kidL m
  have h2 := Tree.lets_eq t
  have h3 := Tree.lets_le _ t (Nat.le_refl _)
  unfold Tree.letsTo; omega

def Tree.letsPTo (t : Tree) (m : Nat) : Nat := (if t.hd.data.toList = [108, 101, 116] then 1 else 0) + ((t.parts.take m).map Tree.letsP).sum
theorem letsPTo_zero (t : Tree) : t.letsPTo 0 = if t.hd.data.toList = [108, 101, 116] then 1 else 0 := by simp [Tree.letsPTo]
theorem letsPTo_succ {t q : Tree} {m : Nat} (h : t.parts[m]? = some q) : t.letsPTo (m + 1) = t.letsPTo m + q.letsP := by
  unfold Tree.letsPTo; rw [sum_map_take _ _ _ _ h]; omega
theorem letsPTo_end {t : Tree} {m : Nat} (h : t.parts.length ≤ m) : t.letsPTo m = t.letsP := by
  unfold Tree.letsPTo; rw [List.take_of_length_le h, Tree.letsP_eq]
theorem letsPTo_le (t : Tree) (m : Nat) : t.letsPTo m ≤ t.sz := by
  have h1 := sum_map_take_le Tree.letsP t.parts m
  have h2 := Tree.letsP_eq t
  have h3 := Tree.letsP_le _ t (Nat.le_refl _)
  unfold Tree.letsPTo; omega

/-- The kinds of expressions, with what is known of their parts. -/
theorem expr_cases {a : ByteArray} {p : Tree} {ps : List Tree} (h : (Tree.node a (p :: ps)).isExpr = true) :
    ∃ k, kidAt p.atom.data.toList (ps.length + 1) = k ∧ kids2 p.atom.data.toList = (k, ps.length + 1) ∧ 1 ≤ k ∧ k < ps.length + 1 ∧ headOk (p :: ps) k = true ∧ ∀ (i : Nat) (q : Tree), k ≤ i → (p :: ps)[i]? = some q → q.isExpr = true := by
  obtain ⟨hk, hh, hq⟩ := isExpr_parts h
  refine ⟨_, rfl, ?_, by omega, ?_, hh, fun i q hi hqi => ?_⟩
  · unfold kidAt at hk ⊢
    by_cases h : ps.length + 1 = (kids2 p.atom.data.toList).2
    · rw [if_pos h, h]
    · rw [if_neg h] at hk; exact absurd rfl hk
  · rcases kidAt_cases p.atom.data.toList (ps.length + 1) with e | ⟨e, h1, -⟩ | ⟨e, h1, -⟩ | ⟨e, h1, -⟩
    · exact absurd e hk
    all_goals omega
  · apply hq q
    rw [Tree.kidL_cons _ _ _ hk]
    exact List.mem_of_getElem? (i := i - kidAt p.atom.data.toList (ps.length + 1)) (by rw [List.getElem?_drop]; rw [show kidAt p.atom.data.toList (ps.length + 1) + (i - kidAt p.atom.data.toList (ps.length + 1)) = i from by omega]; exact hqi)
theorem kidL_at {a : ByteArray} {p : Tree} {ps : List Tree} {k i : Nat} {q : Tree} (hk : kidAt p.atom.data.toList (ps.length + 1) = k) (h0 : 1 ≤ k) (hi : k ≤ i) (hq : (p :: ps)[i]? = some q) : (Tree.node a (p :: ps)).kidL[i - k]? = some q := by
  rw [Tree.kidL_cons _ _ _ (by omega), hk, List.getElem?_drop, show k + (i - k) = i from by omega]
  exact hq
theorem kidL_len {a : ByteArray} {p : Tree} {ps : List Tree} {k : Nat} (hk : kidAt p.atom.data.toList (ps.length + 1) = k) (h0 : 1 ≤ k) : (Tree.node a (p :: ps)).kidL.length = ps.length + 1 - k := by
  rw [Tree.kidL_cons _ _ _ (by omega), hk, List.length_drop, List.length_cons]
end Go.Proofs.Ytoihkjnfklogpaa
