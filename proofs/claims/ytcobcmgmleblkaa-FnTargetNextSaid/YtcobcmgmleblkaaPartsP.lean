/- The parts of a form are forms, and make it; lists of texts compared by the laws. -/
import Derived.Test.YtcobcmgmleblkaaFMake
import Derived.Test.YtcobcmgmleblkaaMake
namespace Go.Proofs.Ytcobcmgmleblkaa
open Go.RowKit

theorem part_depth {ps : List Tree} {p : Tree} (h : p ∈ ps) : p.depth ≤ Tree.depthL ps := by
  induction ps with
  | nil => simp at h
  | cons q ps ih =>
    simp only [Tree.depthL]
    rcases List.mem_cons.1 h with rfl | h
    · omega
    · have := ih h; omega

theorem good_mem {ps : List Tree} {p : Tree} (hg : Tree.goodL ps = true) (h : p ∈ ps) : p.good = true := by
  obtain ⟨k, hk⟩ := List.mem_iff_getElem?.1 h
  exact Tree.good_part ps k p hk hg

/-- A part of a form, read. -/
theorem part_reads {s : List UInt8} {a : ByteArray} {ps : List Tree} (h : parse s = some (.node a ps)) {p : Tree} (hp : p ∈ ps) : parse p.text = some p ∧ p.text.length ≤ 12000 := by
  obtain ⟨h1, h2, h3, h4⟩ := (parse_iff _ _).1 h
  have hne : ps ≠ [] := by rintro rfl; simp at hp
  have hg := (Tree.good_parts h2).1
  have hd : (Tree.node a ps).depth = Tree.depthL ps + 1 := by simp [Tree.depth, hne]
  have := part_depth hp
  have hl := text_part_le (a := a) hp
  rw [h1] at h4
  exact ⟨parse_text (good_mem hg hp) (by omega) (by omega), by omega⟩

theorem allOf_parts {ps : List Tree} (h : ∀ p ∈ ps, parse p.text = some p) : allOf (ps.map Tree.txt) = some ps := by
  induction ps with
  | nil => rfl
  | cons p ps ih =>
    rw [List.map_cons]
    exact allOf_cons.2 ⟨p, ps, rfl, by rw [Tree.txt, bts_data]; exact h p (by simp), ih fun q hq => h q (by simp [hq])⟩

theorem make_parts {s : ByteArray} {a : ByteArray} {ps : List Tree} (h : parse s.data.toList = some (.node a ps)) (hp : ps ≠ []) : makeF (ps.map Tree.txt) = some s := by
  obtain ⟨h1, h2, h3, h4⟩ := (parse_iff _ _).1 h
  have ha : a = ⟨#[]⟩ := by
    have := (Tree.good_parts h2).2
    have e : a.data.toList = [] := Classical.byContradiction fun e => hp (this.2 e)
    rw [bts_eq e]; rfl
  subst ha
  rw [makeF_some (allOf_parts fun p hq => (part_reads h hq).1), if_pos ⟨hp, by unfold Tree.fits; rw [← h1]; simp [h3]; simpa using h4⟩, Tree.txt, ← h1, bts_of]

theorem totS_parts {s : List UInt8} {a : ByteArray} {ps : List Tree} (h : parse s = some (.node a ps)) (hp : ps ≠ []) : totS (ps.map Tree.txt) ≤ 12000 := by
  have h1 : ∀ (qs : List Tree) (i : Nat), totS (qs.map Tree.txt) = (Tree.opened i qs).length := by
    intro qs
    induction qs with
    | nil => intro i; rfl
    | cons q qs ih =>
      intro i
      have := ih (i + 1)
      simp only [totS, List.map_cons, List.sum_cons, List.length_cons, Tree.opened, List.length_append] at *
      rw [Tree.txt, bts_size]; omega
  have h2 := parse_text_le h
  rw [text_of_opened a ps hp] at h2
  rw [h1 ps 0]
  simp at h2; omega
end Go.Proofs.Ytcobcmgmleblkaa
