/- What the laws of target types need. -/
import Derived.Test.YtcobcmgmleblkaaBack
import Derived.Test.YtcobcmgmleblkaaDrawG
namespace Go.Proofs.Ytcobcmgmleblkaa
open Go.RowKit

theorem tgt_i {t : Tree} (h : t.isType = true) : t.tgt.text = [105] ↔ t.text = [105] := by
  obtain ⟨a, ps⟩ := t
  rcases isType_cases h with rfl | ⟨p, x, y, rfl, hx, hy, hp⟩
  · rw [tgt_leaf]
  · rw [tgt_three]
    have h2 : ¬ (Tree.node a [p, x, y]).text = [105] := by
      intro hc
      simp [Tree.text, textL_cons] at hc
    by_cases h42 : p.atom.data.toList = [42]
    · rw [if_pos h42, tgtP_text]
      exact ⟨fun hc => by simp at hc, fun hc => absurd hc h2⟩
    · rw [if_neg h42, tgtF_text]
      exact ⟨fun hc => by simp at hc, fun hc => absurd hc h2⟩

/-- A type's target type is read back. -/
theorem of_back {s : List UInt8} {u : Tree} (h : ptype s = some u) : parse u.tgt.text = some u.tgt ∧ backOf u.tgt.text = some u ∧ u.tgt.target unkI false false = true ∧ u.tgt.text.length ≤ 640 := by
  obtain ⟨h1, h2, h3, h4, h5⟩ := ptype_facts h
  obtain ⟨g1, g2, g3⟩ := typed_tgt h
  have hp : parse u.tgt.text = some u.tgt := parse_text g1 (tgt_depth h) (by omega)
  refine ⟨hp, ?_, (tgt_back _ u (Nat.le_refl _) h1 h2).2.2.2 false, g2⟩
  rw [backOf_some hp]
  exact backI_iff (by rw [← h5]; exact h) rfl

/-- The type that is read back has this target type. -/
theorem back_of {s : List UInt8} {u : Tree} (h : backOf s = some u) : ptype u.text = some u ∧ u.tgt.text = s ∧ u.text.length ≤ 100 := by
  unfold backOf at h
  cases hp : parse s with
  | none => rw [hp] at h; cases h
  | some t =>
    rw [hp] at h
    change backI t = some u at h
    obtain ⟨hs, hg, -, -⟩ := (parse_iff _ _).1 hp
    unfold backI at h
    split at h
    · rename_i hb
      simp only [Bool.and_eq_true] at hb
      cases h
      have hgs := src_good _ t (Nat.le_refl _) hg hb.1
      have hty := hb.2.1
      have he := (eqB_iff _ _).1 hb.2.2
      refine ⟨by rw [ptype_text hgs, if_pos hty], by rw [he, hs], ?_⟩
      unfold Tree.typed at hty
      simp only [Bool.and_eq_true, decide_eq_true_eq] at hty
      have := (type_small _ t.src (Nat.le_refl _) hgs hty.1).1
      omega
    · cases h
end Go.Proofs.Ytcobcmgmleblkaa
