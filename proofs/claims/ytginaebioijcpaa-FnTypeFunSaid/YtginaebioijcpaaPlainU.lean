/- Whether the text of a form that was made is a form; the lengths of forms with other forms for atoms. No program is in sight. -/
import Derived.Test.YtginaebioijcpaaMake
import Derived.Test.YtginaebioijcpaaRepl
namespace Go.Proofs.Ytginaebioijcpaa
open Go.RowKit

/-- How deep the brackets of a text nest. -/
def nestS (x : Nat × Nat) (c : UInt8) : Nat × Nat := if c = 40 then (x.1 + 1, max x.2 (x.1 + 1)) else if c = 41 then (x.1 - 1, x.2) else x

theorem nest_atoms : ∀ (l : List UInt8) (x : Nat × Nat), l.all atomB = true → l.foldl nestS x = x
  | [], _, _ => rfl
  | c :: l, x, h => by
    simp only [List.all_cons, Bool.and_eq_true] at h
    have h40 : c ≠ 40 := by rintro rfl; exact absurd h.1 (by decide)
    have h41 : c ≠ 41 := by rintro rfl; exact absurd h.1 (by decide)
    simp only [List.foldl_cons]
    rw [show nestS x c = x from by unfold nestS; rw [if_neg h40, if_neg h41]]
    exact nest_atoms l x h.2

mutual
theorem nest_text : ∀ (t : Tree) (d m : Nat), t.good = true → d ≤ m → t.text.foldl nestS (d, m) = (d, max m (d + t.depth))
  | .node a ps, d, m, h, hm => by
    by_cases he : ps = []
    · subst he
      simp [Tree.good] at h
      rw [text_leaf, nest_atoms _ _ (by simpa using h.2)]
      simp [Tree.depth]; omega
    · obtain ⟨h1, _⟩ := Tree.good_parts h
      have hi : ps.isEmpty = false := by simpa using he
      have e : (Tree.node a ps).text = 40 :: Tree.textL ps := by simp [Tree.text, he]
      have hd : (Tree.node a ps).depth = Tree.depthL ps + 1 := by simp [Tree.depth, he]
      rw [e, hd, List.foldl_cons]
      rw [show nestS (d, m) 40 = (d + 1, max m (d + 1)) from rfl]
      rw [nest_textL ps (d + 1) (max m (d + 1)) he h1 (by omega)]
      simp; omega
theorem nest_textL : ∀ (ps : List Tree) (d m : Nat), ps ≠ [] → Tree.goodL ps = true → d ≤ m → (Tree.textL ps).foldl nestS (d, m) = (d - 1, max m (d + Tree.depthL ps))
  | [], _, _, h, _, _ => absurd rfl h
  | p :: ps, d, m, _, hg, hm => by
    simp only [Tree.goodL, Bool.and_eq_true] at hg
    rw [textL_cons, List.foldl_append, nest_text p d m hg.1 hm]
    by_cases he : ps = []
    · subst he
      simp [nestS, Tree.depthL]
    · have hi : ps.isEmpty = false := by simpa using he
      rw [hi]
      simp only [Bool.false_eq_true, if_false, List.foldl_cons]
      rw [show nestS (d, max m (d + p.depth)) 32 = (d, max m (d + p.depth)) from rfl]
      rw [nest_textL ps d _ he hg.2 (by omega)]
      simp only [Tree.depthL, Prod.mk.injEq, true_and]; omega
end

theorem depth_of_text {t u : Tree} (ht : t.good = true) (hu : u.good = true) (h : t.text = u.text) : t.depth = u.depth := by
  have h1 := nest_text t 0 0 ht (Nat.le_refl _)
  have h2 := nest_text u 0 0 hu (Nat.le_refl _)
  rw [h, h2] at h1
  simp at h1; omega

/-- A form that was made is a form where it is not too deep nor too long. -/
def Tree.fits (u : Tree) : Bool := decide (u.depth ≤ 60) && decide (u.text.length ≤ 12000)

theorem parse_of_fits {u : Tree} (hu : u.good = true) (h : u.fits = true) : parse u.text = some u := by
  unfold Tree.fits at h
  simp only [Bool.and_eq_true, decide_eq_true_eq] at h
  exact parse_text hu h.1 h.2

theorem parse_isSome {u : Tree} (hu : u.good = true) : (parse u.text).isSome = u.fits := by
  by_cases h : u.fits = true
  · rw [parse_of_fits hu h, h]; rfl
  · have h' : u.fits = false := by simpa using h
    rw [h']
    cases hp : parse u.text with
    | none => rfl
    | some t =>
      obtain ⟨h1, h2, h3, h4⟩ := (parse_iff _ _).1 hp
      exfalso
      apply h
      unfold Tree.fits
      rw [← depth_of_text h2 hu h1.symm]
      simp [h3, h4]

theorem fits_sz {u : Tree} (hu : u.good = true) (h : u.text.length ≤ 12000) : u.sz ≤ 24000 := by
  have := Tree.sz_le_text u hu; omega

/-- How often an atom stands in a form. -/
def cntA (atom : ByteArray) (l : List ByteArray) : Nat := l.countP fun a => a.toList == atom.toList

mutual
theorem subst_len (atom : ByteArray) (g : Tree) : ∀ t : Tree, (((t.subst (putF atom g)).text.length : Nat) : Int) = t.text.length + (cntA atom t.atoms : Int) * ((g.text.length : Int) - atom.size)
  | .node a ps => by
    by_cases he : ps = []
    · subst he
      simp only [Tree.subst, Tree.atoms, List.isEmpty_nil, if_true, text_leaf, cntA]
      unfold putF
      by_cases h : (a.toList == atom.toList) = true
      · have e : a = atom := by rw [toList_inj, decide_eq_true_eq] at h; exact h
        rw [if_pos h]
        simp [h]
        rw [e, size_data]
        simp; omega
      · rw [if_neg h, text_leaf]
        simp [h]
    · have hi : ps.isEmpty = false := by simpa using he
      have e1 : (Tree.node a ps).subst (putF atom g) = .node ⟨#[]⟩ (Tree.substL (putF atom g) ps) := by simp [Tree.subst, he]
      have e2 : (Tree.node a ps).atoms = Tree.atomsL ps := by simp [Tree.atoms, he]
      have := substL_len atom g ps 0
      rw [e1, e2, text_of_opened _ _ (Tree.substL_ne he), text_of_opened _ _ he]
      simp only [List.length_append, List.length_singleton]
      omega
theorem substL_len (atom : ByteArray) (g : Tree) : ∀ (ps : List Tree) (i : Nat), (((Tree.opened i (Tree.substL (putF atom g) ps)).length : Nat) : Int) = (Tree.opened i ps).length + (cntA atom (Tree.atomsL ps) : Int) * ((g.text.length : Int) - atom.size)
  | [], i => by simp [Tree.substL, Tree.opened, Tree.atomsL, cntA]
  | p :: ps, i => by
    have h1 := subst_len atom g p
    have h2 := substL_len atom g ps (i + 1)
    have h3 : cntA atom (Tree.atomsL (p :: ps)) = cntA atom p.atoms + cntA atom (Tree.atomsL ps) := by simp [cntA, Tree.atomsL]
    rw [h3]
    simp only [Tree.substL, Tree.opened, List.length_cons, List.length_append]
    have h4 : ((cntA atom p.atoms + cntA atom (Tree.atomsL ps) : Nat) : Int) * ((g.text.length : Int) - atom.size) = (cntA atom p.atoms : Int) * ((g.text.length : Int) - atom.size) + (cntA atom (Tree.atomsL ps) : Int) * ((g.text.length : Int) - atom.size) := by
      rw [Int.natCast_add, Int.add_mul]
    rw [h4]
    omega
end

theorem cntA_le (atom : ByteArray) (t : Tree) : cntA atom t.atoms ≤ t.size := by
  rw [← Tree.atoms_le]; exact List.countP_le_length

/-- What replacing gives. -/
def replOf (s at_ by_ : List UInt8) (atom : ByteArray) : Option ByteArray :=
  match parse s, parse by_ with
  | some t, some g => if (isAtomL at_ && decide (at_.length ≤ 12000)) = true then (if (t.subst (putF atom g)).fits = true then some (t.subst (putF atom g)).txt else none) else none
  | _, _ => none

theorem replOf_none1 {s a b : List UInt8} {atom : ByteArray} (h : parse s = none) : replOf s a b atom = none := by unfold replOf; rw [h]
theorem replOf_none2 {s a b : List UInt8} {atom : ByteArray} (h : parse b = none) : replOf s a b atom = none := by unfold replOf; rw [h]; cases parse s <;> rfl
theorem replOf_atom {s a b : List UInt8} {atom : ByteArray} (h : isAtomL a = false) : replOf s a b atom = none := by
  unfold replOf; rw [h]; cases parse s <;> cases parse b <;> simp
theorem replOf_long {s a b : List UInt8} {atom : ByteArray} (h : 12000 < a.length) : replOf s a b atom = none := by
  unfold replOf; rw [decide_eq_false (by omega), Bool.and_false]; cases parse s <;> cases parse b <;> simp
theorem replOf_some {s a b : List UInt8} {atom : ByteArray} {t g : Tree} (h1 : parse s = some t) (h2 : parse b = some g) (h3 : isAtomL a = true) (h4 : a.length ≤ 12000) :
    replOf s a b atom = if (t.subst (putF atom g)).fits = true then some (t.subst (putF atom g)).txt else none := by
  unfold replOf; rw [h1, h2, h3, decide_eq_true h4]; simp

theorem putF_good {atom : ByteArray} {g t : Tree} (hg : g.good = true) (ht : t.good = true) : (t.subst (putF atom g)).good = true :=
  Tree.subst_good _ (fun a ha => show (if a.toList == atom.toList then g else .node a []).good = true by
    by_cases h : (a.toList == atom.toList) = true
    · rw [if_pos h]; exact hg
    · rw [if_neg h]; exact ha) _ ht

theorem subst_bound {atom : ByteArray} {g t : Tree} (hg : g.text.length ≤ 12000) (ht : t.text.length ≤ 12000) (hs : t.size ≤ 12000) : (t.subst (putF atom g)).text.length ≤ 150000000 := by
  have h := subst_len atom g t
  have h1 := cntA_le atom t
  have h2 : (cntA atom t.atoms : Int) * ((g.text.length : Int) - atom.size) ≤ 12000 * 12000 := by
    by_cases hd : (0 : Int) ≤ (g.text.length : Int) - atom.size
    · exact Int.mul_le_mul (by omega) (by omega) hd (by omega)
    · have := Int.mul_nonneg (show (0 : Int) ≤ (cntA atom t.atoms : Int) by omega) (show (0 : Int) ≤ -((g.text.length : Int) - atom.size) by omega)
      rw [Int.mul_neg] at this; omega
  omega

/-- An atom's text, read. -/
theorem parse_atom {l : List UInt8} (h : isAtomL l = true) (hl : l.length ≤ 12000) : parse l = some (.node (bts l) []) := by
  unfold isAtomL at h
  simp only [Bool.and_eq_true, decide_eq_true_eq] at h
  refine (parse_iff _ _).2 ⟨by rw [text_leaf, bts_data], ?_, by simp [Tree.depth], hl⟩
  simp [Tree.good, bts_data, h.1]
  simpa using h.2

theorem parse_leaf {l : List UInt8} {a : ByteArray} (h : parse l = some (.node a [])) : isAtomL l = true ∧ a = bts l ∧ l.length ≤ 12000 := by
  obtain ⟨h1, h2, _, h4⟩ := (parse_iff _ _).1 h
  rw [text_leaf] at h1
  simp [Tree.good] at h2
  refine ⟨?_, bts_eq h1.symm, h4⟩
  unfold isAtomL
  rw [h1]
  simp [h2.1]
  simpa using h2.2

theorem parse_list {l : List UInt8} {a : ByteArray} {ps : List Tree} (h : parse l = some (.node a ps)) (hp : ps ≠ []) : isAtomL l = false ∧ a.data.toList = [] := by
  obtain ⟨h1, h2, _, _⟩ := (parse_iff _ _).1 h
  have hi : ps.isEmpty = false := by simpa using hp
  simp [Tree.good, hi] at h2
  refine ⟨?_, by rw [h2.1]⟩
  rw [h1]
  simp [Tree.text, hi, isAtomL]
  intro h; exact absurd h (by decide)
end Go.Proofs.Ytginaebioijcpaa
