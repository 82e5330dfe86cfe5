/- What goes on with a value: plain. -/
import Derived.Test.YtcobcmgmleblkaaTgtM
import Derived.Test.YtcobcmgmleblkaaMake
import Derived.Test.YtcobcmgmleblkaaPartsP
namespace Go.Proofs.Ytcobcmgmleblkaa
open Go.RowKit

/-- What lies in the package of what goes on. -/
def onwY (t : Tree) : Tree := .node ⟨#[]⟩ [.node ⟨#[116]⟩ [], .node ⟨#[]⟩ [.node ⟨#[99]⟩ [], .node ⟨#[118]⟩ [], t], .node ⟨#[118]⟩ []]
def onwZ (t : Tree) : Tree := .node ⟨#[]⟩ [.node ⟨#[116]⟩ [], .node ⟨#[]⟩ [.node ⟨#[99]⟩ [], .node ⟨#[97, 48]⟩ [], t], .node ⟨#[97, 48]⟩ []]
theorem onw_is (t : Tree) : onw t = .node ⟨#[]⟩ [.node ⟨#[101]⟩ [], onwY t] := rfl

theorem onw_back {t : Tree} {s : List UInt8} (hp : parse s = some (onw t)) : backOf s = none := by
  rw [backOf_some hp]
  have hc : (onw t).cut3 = none := rfl
  unfold backI
  rw [(src_none hc).2.1]; rfl

/-- All of it, of a type. -/
theorem onw_facts {s : List UInt8} {u : Tree} (h : ptype s = some u) :
    parse (onw u.tgt).text = some (onw u.tgt) ∧ (onw u.tgt).text.length ≤ 700 ∧ (onw u.tgt).target unkI false false = true ∧
    (onwY u.tgt).text.length ≤ 700 ∧ putOf unkI (onwY u.tgt).text [97, 48] = some (onwZ u.tgt).txt ∧ (onwZ u.tgt).text.length ≤ 700 ∧ parse (onwZ u.tgt).text = some (onwZ u.tgt) := by
  obtain ⟨h1, h2, h3, h4, h5⟩ := ptype_facts h
  obtain ⟨g1, g2, g3⟩ := typed_tgt h
  have hd := tgt_depth_any _ u (Nat.le_refl _) h1 h2
  have ht := (tgt_back _ u (Nat.le_refl _) h1 h2).2.2.2
  generalize u.tgt = t at *
  have l1 : (onw t).text.length ≤ 700 := by rw [onw_text]; simp; omega
  have d1 : (onw t).depth ≤ 60 := by simp [onw, Tree.depth, Tree.depthL]; omega
  have l2 : (onwY t).text.length ≤ 700 := by simp [onwY, Tree.text, textL_cons]; omega
  have d2 : (onwY t).depth ≤ 60 := by simp [onwY, Tree.depth, Tree.depthL]; omega
  have l3 : (onwZ t).text.length ≤ 700 := by simp [onwZ, Tree.text, textL_cons]; omega
  have d3 : (onwZ t).depth ≤ 60 := by simp [onwZ, Tree.depth, Tree.depthL]; omega
  have y1 : (onwY t).good = true := by simp [onwY, Tree.good, Tree.goodL, g1]; decide
  have z1 : (onwZ t).good = true := by simp [onwZ, Tree.good, Tree.goodL, g1]; decide
  have hpa : parse [97, 48] = some (.node ⟨#[97, 48]⟩ []) := by
    have := parse_text (t := .node ⟨#[97, 48]⟩ []) rfl (by simp [Tree.depth]) (by simp [Tree.text])
    simpa [Tree.text] using this
  have hput : (onwY t).put (.node ⟨#[97, 48]⟩ []) = onwZ t := by
    have hc := put_closed unkI rfl (.node ⟨#[97, 48]⟩ []) false t g1 (ht false)
    simp [onwY, onwZ, Tree.put, Tree.putL, Tree.atom, hc]
  refine ⟨parse_text (onw_good g1) d1 (by omega), l1, ?_, l2, ?_, l3, parse_text z1 d3 (by omega)⟩
  · rw [onw_is]
    simp [onwY, Tree.target, Tree.targetL, Tree.atom, ht true]
  · rw [putOf_some (parse_text y1 d2 (by omega)) hpa, hput, if_pos, if_pos]
    · unfold Tree.fits; rw [decide_eq_true d3, decide_eq_true (by omega)]; rfl
    · have h1 := target_mono unkI (h' := true) (o' := true) id (fun h => by cases h) t (ht true)
      simp [onwY, Tree.target, Tree.targetL, Tree.atom, h1]; decide

theorem texts_two {w : World} {base : Nat} {v : Value} {x y : ByteArray} (h : SRow w base v [x, y]) : ∃ b off c, v = .slice (some ⟨b, off, none⟩) 2 c ∧ w.cell? ⟨b, off + 1, none⟩ = some (.string y) := by
  obtain ⟨o, c, rfl, hn, h | ⟨b, off, rfl, hc⟩⟩ := h.forms
  · cases h
  · exact ⟨b, off, c, rfl, hc 1 y rfl⟩
theorem texts_three {w : World} {base : Nat} {v : Value} {x y z : ByteArray} (h : SRow w base v [x, y, z]) : ∃ b off c, v = .slice (some ⟨b, off, none⟩) 3 c ∧ w.cell? ⟨b, off + 2, none⟩ = some (.string z) := by
  obtain ⟨o, c, rfl, hn, h | ⟨b, off, rfl, hc⟩⟩ := h.forms
  · cases h
  · exact ⟨b, off, c, rfl, hc 2 z rfl⟩
end Go.Proofs.Ytcobcmgmleblkaa
