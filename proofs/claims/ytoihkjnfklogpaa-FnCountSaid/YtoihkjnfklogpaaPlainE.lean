/- Expressions in plain Lean. -/
import Derived.Test.YtoihkjnfklogpaaPlainT
namespace Go.Proofs.Ytoihkjnfklogpaa


/-- Where the parts that are expressions begin, and how many parts there are, by the head. -/
def kids2 (h : List UInt8) : Nat × Nat :=
  if h = [43] ∨ h = [45] ∨ h = [42] ∨ h = [99, 97, 108, 108] ∨ h = [112, 97, 105, 114] then (1, 3)
  else if h = [105, 102] then (1, 4)
  else if h = [108, 101, 116] then (2, 4)
  else if h = [102, 117, 110] then (5, 6)
  else if h = [102, 115, 116] ∨ h = [115, 110, 100] then (1, 2)
  else (0, 0)

/-- Where they begin in a form with that many parts; 0 for a form that is no expression. -/
def kidAt (h : List UInt8) (n : Nat) : Nat := if n = (kids2 h).2 then (kids2 h).1 else 0

/-- Their places. -/
def kidsOf (h : List UInt8) (n : Nat) : List Nat := if kidAt h n = 0 then [] else List.range' (kidAt h n) (n - kidAt h n)

def nth (ps : List Tree) (i : Nat) : Tree := ps.getD i (.node ⟨#[]⟩ [])

/-- What the parts are that are no expressions. -/
def headOk (ps : List Tree) (k : Nat) : Bool :=
  if k = 2 then nameB (nth ps 1).atom.data.toList
  else if k = 5 then nameB (nth ps 1).atom.data.toList && nameB (nth ps 2).atom.data.toList && !((nth ps 1).atom.toList == (nth ps 2).atom.toList) && (nth ps 3).typed && (nth ps 4).typed
  else true

def bareB (l : List UInt8) : Bool := nameB l || numB l

mutual
/-- Is a form an expression of any size? -/
def Tree.isExpr : Tree → Bool
  | .node a [] => bareB a.data.toList
  | .node _ (p :: ps) => decide (kidAt p.atom.data.toList (ps.length + 1) ≠ 0) && (headOk (p :: ps) (kidAt p.atom.data.toList (ps.length + 1)) && Tree.exprFrom (kidAt p.atom.data.toList (ps.length + 1) - 1) ps)
def Tree.exprFrom : Nat → List Tree → Bool
  | _, [] => true
  | 0, p :: ps => p.isExpr && Tree.exprFrom 0 ps
  | k + 1, _ :: ps => Tree.exprFrom k ps
end

def pexpr (s : List UInt8) : Option Tree := match parse s with
  | some t => if t.isExpr && decide (t.size ≤ 120) then some t else none
  | none => none

theorem pexpr_some {s : List UInt8} {t : Tree} : pexpr s = some t ↔ parse s = some t ∧ t.isExpr = true ∧ t.size ≤ 120 := by
  unfold pexpr
  cases parse s with
  | none => simp
  | some u =>
    by_cases h : (u.isExpr && decide (u.size ≤ 120)) = true
    · simp only [h, if_true, Option.some.injEq]
      simp only [Bool.and_eq_true, decide_eq_true_eq] at h
      exact ⟨fun e => by subst e; exact ⟨rfl, h⟩, fun e => e.1⟩
    · simp only [h, Option.some.injEq]
      simp only [Bool.and_eq_true, decide_eq_true_eq] at h
      exact ⟨fun e => by simp at e, fun e => absurd (by rw [e.1]; exact e.2) h⟩

theorem pexpr_isSome (s : List UInt8) : (pexpr s).isSome = (match parse s with | some t => t.isExpr && decide (t.size ≤ 120) | none => false) := by
  unfold pexpr
  cases parse s with
  | none => rfl
  | some t => cases h : (t.isExpr && decide (t.size ≤ 120)) <;> simp [h]

theorem exprFrom_all : ∀ (ps : List Tree) (k : Nat), (∀ (i : Nat) (q : Tree), k ≤ i → ps[i]? = some q → q.isExpr = true) → Tree.exprFrom k ps = true
  | [], k, _ => by simp [Tree.exprFrom]
  | p :: ps, 0, h => by
    simp only [Tree.exprFrom, Bool.and_eq_true]
    exact ⟨h 0 p (Nat.le_refl _) rfl, exprFrom_all ps 0 fun i q _ hq => h (i + 1) q (by omega) (by simpa using hq)⟩
  | p :: ps, k + 1, h => by
    simp only [Tree.exprFrom]
    exact exprFrom_all ps k fun i q hk hq => h (i + 1) q (by omega) (by simpa using hq)

theorem exprFrom_get : ∀ (ps : List Tree) (k : Nat), Tree.exprFrom k ps = true → ∀ (i : Nat) (q : Tree), k ≤ i → ps[i]? = some q → q.isExpr = true
  | [], k, _, i, q, _, hq => by simp at hq
  | p :: ps, 0, h, i, q, _, hq => by
    simp only [Tree.exprFrom, Bool.and_eq_true] at h
    cases i with
    | zero => simp at hq; subst hq; exact h.1
    | succ i => simp at hq; exact exprFrom_get ps 0 h.2 i q (by omega) hq
  | p :: ps, k + 1, h, i, q, hk, hq => by
    simp only [Tree.exprFrom] at h
    cases i with
    | zero => omega
    | succ i => simp at hq; exact exprFrom_get ps k h i q (by omega) hq

theorem exprFrom_no {ps : List Tree} {k i : Nat} {q : Tree} (hk : k ≤ i) (hq : ps[i]? = some q) (h : q.isExpr = false) : Tree.exprFrom k ps = false := by
  cases e : Tree.exprFrom k ps with
  | false => rfl
  | true => rw [exprFrom_get ps k e i q hk hq] at h; cases h

/-! The heads. -/
theorem kids2_other {h : List UInt8} (h1 : h ≠ [43]) (h2 : h ≠ [45]) (h3 : h ≠ [42]) (h4 : h ≠ [99, 97, 108, 108]) (h5 : h ≠ [112, 97, 105, 114]) (h6 : h ≠ [105, 102]) (h7 : h ≠ [108, 101, 116]) (h8 : h ≠ [102, 117, 110])
    (h9 : h ≠ [102, 115, 116]) (h10 : h ≠ [115, 110, 100]) : kids2 h = (0, 0) := by
  unfold kids2
  simp [h1, h2, h3, h4, h5, h6, h7, h8, h9, h10]

theorem kids2_cases (h : List UInt8) : (kids2 h = (0, 0) ∧ h ≠ [108, 101, 116] ∧ h ≠ [102, 117, 110]) ∨ ((kids2 h = (1, 2) ∨ kids2 h = (1, 3) ∨ kids2 h = (1, 4)) ∧ h ≠ [108, 101, 116] ∧ h ≠ [102, 117, 110]) ∨ (kids2 h = (2, 4) ∧ h = [108, 101, 116]) ∨ (kids2 h = (5, 6) ∧ h = [102, 117, 110]) := by
  by_cases e7 : h = [108, 101, 116]
  · subst e7; right; right; left; exact ⟨by decide, rfl⟩
  by_cases e8 : h = [102, 117, 110]
  · subst e8; right; right; right; exact ⟨by decide, rfl⟩
  by_cases e1 : h = [43] ∨ h = [45] ∨ h = [42] ∨ h = [99, 97, 108, 108] ∨ h = [112, 97, 105, 114]
  · right; left; exact ⟨.inr (.inl (by unfold kids2; rw [if_pos e1])), e7, e8⟩
  by_cases e6 : h = [105, 102]
  · right; left; exact ⟨.inr (.inr (by unfold kids2; rw [if_neg e1, if_pos e6])), e7, e8⟩
  by_cases e9 : h = [102, 115, 116] ∨ h = [115, 110, 100]
  · right; left; exact ⟨.inl (by unfold kids2; rw [if_neg e1, if_neg e6, if_neg e7, if_neg e8, if_pos e9]), e7, e8⟩
  · left; exact ⟨by unfold kids2; rw [if_neg e1, if_neg e6, if_neg e7, if_neg e8, if_neg e9], e7, e8⟩

/-- The kinds of forms by head and number of parts. -/
theorem kidAt_cases (h : List UInt8) (n : Nat) : kidAt h n = 0 ∨ (kidAt h n = 1 ∧ 2 ≤ n ∧ n ≤ 4 ∧ h ≠ [108, 101, 116] ∧ h ≠ [102, 117, 110]) ∨ (kidAt h n = 2 ∧ n = 4 ∧ h = [108, 101, 116]) ∨ (kidAt h n = 5 ∧ n = 6 ∧ h = [102, 117, 110]) := by
  unfold kidAt
  rcases kids2_cases h with ⟨e, -⟩ | ⟨e | e | e, h7, h8⟩ | ⟨e, h7⟩ | ⟨e, h8⟩
  all_goals
    rw [e]
    dsimp only
    split
  · exact .inl rfl
  · exact .inl rfl
  all_goals first | exact .inl rfl | exact .inr (.inl ⟨rfl, by omega, by omega, h7, h8⟩) | exact .inr (.inr (.inl ⟨rfl, by omega, h7⟩)) | exact .inr (.inr (.inr ⟨rfl, by omega, h8⟩))

theorem kidAt_le (h : List UInt8) (n : Nat) : kidAt h n ≤ n := by
  rcases kidAt_cases h n with e | ⟨e, h1, -⟩ | ⟨e, h1, -⟩ | ⟨e, h1, -⟩ <;> omega

theorem kidsOf_get (h : List UInt8) (n : Nat) (hk : kidAt h n ≠ 0) (j : Nat) (hj : j < n - kidAt h n) : (kidsOf h n)[j]? = some (kidAt h n + j) := by
  unfold kidsOf
  rw [if_neg hk, List.getElem?_range' hj]
  simp
theorem kidsOf_length (h : List UInt8) (n : Nat) (hk : kidAt h n ≠ 0) : (kidsOf h n).length = n - kidAt h n := by
  unfold kidsOf; rw [if_neg hk]; simp
theorem kidsOf_none (h : List UInt8) (n : Nat) (hk : kidAt h n = 0) : kidsOf h n = [] := by unfold kidsOf; rw [if_pos hk]
end Go.Proofs.Ytoihkjnfklogpaa
