/- Are two forms one: in plain Lean. -/
import Derived.Test.YtoihkjnfklogpaaPlainT
namespace Go.Proofs.Ytoihkjnfklogpaa

mutual
/-- Are two forms one? -/
def Tree.eqB : Tree → Tree → Bool
  | .node a ps, .node b qs => decide (a.data.toList = b.data.toList) && Tree.eqL ps qs
def Tree.eqL : List Tree → List Tree → Bool
  | [], [] => true
  | p :: ps, q :: qs => p.eqB q && Tree.eqL ps qs
  | _, _ => false
end

theorem bytes_eq {a b : ByteArray} (h : a.data.toList = b.data.toList) : a = b := by
  cases a with | mk d => cases b with | mk e => simp only at h; rw [Array.toList_inj.1 h]

mutual
theorem eqB_iff : ∀ t u : Tree, t.eqB u = true ↔ t = u
  | .node a ps, .node b qs => by
    simp only [Tree.eqB, Bool.and_eq_true, decide_eq_true_eq, eqL_iff ps qs, Tree.node.injEq]
    exact ⟨fun h => ⟨bytes_eq h.1, h.2⟩, fun h => ⟨by rw [h.1], h.2⟩⟩
theorem eqL_iff : ∀ ps qs : List Tree, Tree.eqL ps qs = true ↔ ps = qs
  | [], [] => by simp [Tree.eqL]
  | p :: ps, q :: qs => by simp only [Tree.eqL, Bool.and_eq_true, eqB_iff p q, eqL_iff ps qs, List.cons.injEq]
  | [], q :: qs => by simp [Tree.eqL]
  | p :: ps, [] => by simp [Tree.eqL]
end

theorem eqL_no : ∀ {ps qs : List Tree} {i : Nat} {p q : Tree}, ps[i]? = some p → qs[i]? = some q → p.eqB q = false → Tree.eqL ps qs = false
  | [], _, _, _, _, h, _, _ => by simp at h
  | _ :: _, [], _, _, _, _, h, _ => by simp at h
  | p' :: ps, q' :: qs, 0, p, q, h, h', e => by simp at h h'; subst h; subst h'; simp [Tree.eqL, e]
  | p' :: ps, q' :: qs, i + 1, p, q, h, h', e => by simp only [Tree.eqL]; rw [eqL_no (by simpa using h) (by simpa using h') e, Bool.and_false]
theorem eqL_len {ps qs : List Tree} (h : ps.length ≠ qs.length) : Tree.eqL ps qs = false := by
  cases e : Tree.eqL ps qs with
  | false => rfl
  | true => rw [(eqL_iff _ _).1 e] at h; exact absurd rfl h
theorem eqL_all : ∀ {ps qs : List Tree}, ps.length = qs.length → (∀ (i : Nat) (p q : Tree), ps[i]? = some p → qs[i]? = some q → p.eqB q = true) → Tree.eqL ps qs = true
  | [], [], _, _ => rfl
  | [], _ :: _, h, _ => by simp at h
  | _ :: _, [], h, _ => by simp at h
  | p :: ps, q :: qs, h, H => by
    simp only [Tree.eqL, Bool.and_eq_true]
    exact ⟨H 0 p q rfl rfl, eqL_all (by simpa using h) fun i p' q' h1 h2 => H (i + 1) p' q' (by simpa using h1) (by simpa using h2)⟩

end Go.Proofs.Ytoihkjnfklogpaa
