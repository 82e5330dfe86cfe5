/- Whether the text of a form that was made is a form; the lengths of forms with other forms for atoms. No program is in sight. -/
import Derived.Test.YtcobcmgmleblkaaMake
import Derived.Test.YtcobcmgmleblkaaRepl
namespace Go.Proofs.Ytcobcmgmleblkaa
open Go.RowKit

/-- How deep the brackets of a text nest. -/
def nestS (x : Nat × Nat) (c : UInt8) : Nat × Nat := if c = 40 then (x.1 + 1, max x.2 (x.1 + 1)) else if c = 41 then (x.1 - 1, x.2) else x

theorem nest_atoms : ∀ (l : List UInt8) (x : Nat × Nat), l.all atomB = true → l.foldl nestS x = x
  | [], _, _ => rfl
  | c :: l, x, h => by
    simp only [List.all_cons, Bool.and_eq_true] at h
    have h40 : c ≠ 40 := by rintro rfl; exact absurd h.1 (by decide)
    have h41 : c ≠ 41 := by rintro rfl; exact absurd h.1 (by decide)
    simp only [List.foldl_cons]
    rw [show nestS x c = x from by unfold nestS; rw [if_neg h40, if_neg h41]]
    exact nest_atoms l x h.2

mutual
theorem nest_text : ∀ (t : Tree) (d m : Nat), t.good = true → d ≤ m → t.text.foldl nestS (d, m) = (d, max m (d + t.depth))
  | .node a ps, d, m, h, hm => by
    by_cases he : ps = []
    · subst he
      simp [Tree.good] at h
      rw [text_leaf, nest_atoms _ _ (by simpa using h.2)]
      simp [Tree.depth]; omega
    · obtain ⟨h1, _⟩ := Tree.good_parts h
      have hi : ps.isEmpty = false := by simpa using he
      have e : (Tree.node a ps).text = 40 :: Tree.textL ps := by simp [Tree.text, he]
      have hd : (Tree.node a ps).depth = Tree.depthL ps + 1 := by simp [Tree.depth, he]
      rw [e, hd, List.foldl_cons]
      rw [show nestS (d, m) 40 = (d + 1, max m (d + 1)) from rfl]
      rw [nest_textL ps (d + 1) (max m (d + 1)) he h1 (by omega)]
      simp; omega
theorem nest_textL : ∀ (ps : List Tree) (d m : Nat), ps ≠ [] → Tree.goodL ps = true → d ≤ m → (Tree.textL ps).foldl nestS (d, m) = (d - 1, max m (d + Tree.depthL ps))
  | [], _, _, h, _, _ => absurd rfl h
  | p :: ps, d, m, _, hg, hm => by
    simp only [Tree.goodL, Bool.and_eq_true] at hg
    rw [textL_cons, List.foldl_append, nest_text p d m hg.1 hm]
    by_cases he : ps = []
    · subst he
      simp [nestS, Tree.depthL]
    · have hi : ps.isEmpty = false := by simpa using he
      rw [hi]
      simp only [Bool.false_eq_true, if_false, List.foldl_cons]
      rw [show nestS (d, max m (d + p.depth)) 32 = (d, max m (d + p.depth)) from rfl]
      rw [nest_textL ps d _ he hg.2 (by omega)]
      simp only [Tree.depthL, Prod.mk.injEq, true_and]; omega
end

theorem depth_of_text {t u : Tree} (ht : t.good = true) (hu : u.good = true) (h : t.text = u.text) : t.depth = u.depth := by
  have h1 := nest_text t 0 0 ht (Nat.le_refl _)
  have h2 := nest_text u 0 0 hu (Nat.le_refl _)
  rw [h, h2] at h1
  simp at h1; omega

/-- A form that was made is a form where it is not too deep nor too long. -/
def Tree.fits (u : Tree) : Bool := decide (u.depth ≤ 60) && decide (u.text.length ≤ 12000)

theorem parse_of_fits {u : Tree} (hu : u.good = true) (h : u.fits = true) : parse u.text = some u := by
  unfold Tree.fits at h
  simp only [Bool.and_eq_true, decide_eq_true_eq] at h
  exact parse_text hu h.1 h.2

theorem parse_isSome {u : Tree} (hu : u.good = true) : (parse u.text).isSome = u.fits := by
  by_cases h : u.fits = true
  · rw [parse_of_fits hu h, h]; rfl
  · have h' : u.fits = false := by simpa using h
    rw [h']
    cases hp : parse u.text with
    | none => rfl
    | some t =>
      obtain ⟨h1, h2, h3, h4⟩ := (parse_iff _ _).1 hp
      exfalso
      apply h
      unfold Tree.fits
      rw [← depth_of_text h2 hu h1.symm]
      simp [h3, h4]

theorem fits_sz {u : Tree} (hu : u.good = true) (h : u.text.length ≤ 12000) : u.sz ≤ 24000 := by
  have := Tree.sz_le_text u hu; omega

end Go.Proofs.Ytcobcmgmleblkaa
