/- Expressions: their heads, and how many expressions they are; of the program and of the reference. -/
import Derived.Test.YtoihkjnfklogpaaExpr
import Derived.Test.YtoihkjnfklogpaaSExprP
namespace Go.Proofs.Ytoihkjnfklogpaa
open Go.RowKit

/-- What is known of a text that is an expression. -/
theorem pexpr_facts {s : List UInt8} {t : Tree} (h : pexpr s = some t) : t.good = true ∧ t.sz ≤ 24000 ∧ t.text.length ≤ 12000 ∧ t.isExpr = true ∧ t.size ≤ 120 ∧ t.depth ≤ 60 := by
  obtain ⟨hp, he, hs⟩ := pexpr_some.1 h
  obtain ⟨h1, h2, h3, h4⟩ := (parse_iff _ _).1 hp
  exact ⟨h2, parse_sz hp, by rw [← h1]; exact h4, he, hs, h3⟩

/-- What an expression begins with. -/
def headWord : Option Tree → ByteArray
  | none => ⟨#[]⟩
  | some t => if t.parts.isEmpty then (if nameB t.atom.data.toList then ⟨#[110, 97, 109, 101]⟩ else ⟨#[110, 117, 109, 98, 101, 114]⟩) else t.hd

theorem ret_string {a b : ByteArray} (h : a = b) : Ending.returned (.string a) = .returned (.string b) := by rw [h]


end Go.Proofs.Ytoihkjnfklogpaa
