/- What the laws of target types need: putting and making. -/
import Derived.Test.YtcobcmgmleblkaaPutW
import Derived.Test.YtcobcmgmleblkaaFMake
import Derived.Test.YtcobcmgmleblkaaTgtL
namespace Go.Proofs.Ytcobcmgmleblkaa
open Go.RowKit

theorem strs2 {w : World} {b : Nat} {x y : ByteArray} {ty : TypeId} (h : w.heap[b]? = some (.cells #[.string x, .string y] ty (0, 0))) : Strs w (some ⟨b, 0, none⟩) 2 [x, y] := by
  refine ⟨rfl, .inr ⟨b, 0, rfl, fun i s hi => ?_⟩⟩
  match i, hi with
  | 0, hi => cases hi; simp only [World.cell?, h]; rfl
  | 1, hi => cases hi; simp only [World.cell?, h]; rfl
  | (n + 2), hi => simp at hi
theorem strs3 {w : World} {b : Nat} {x y z : ByteArray} {ty : TypeId} (h : w.heap[b]? = some (.cells #[.string x, .string y, .string z] ty (0, 0))) : Strs w (some ⟨b, 0, none⟩) 3 [x, y, z] := by
  refine ⟨rfl, .inr ⟨b, 0, rfl, fun i s hi => ?_⟩⟩
  match i, hi with
  | 0, hi => cases hi; simp only [World.cell?, h]; rfl
  | 1, hi => cases hi; simp only [World.cell?, h]; rfl
  | 2, hi => cases hi; simp only [World.cell?, h]; rfl
  | (n + 3), hi => simp at hi

/-- A text is a target type. -/
def tval (s : ByteArray) : Bool := match parse s.data.toList with
  | some t => t.target unkI false false
  | none => false
theorem tval_txt {t : Tree} (hg : t.good = true) (hf : t.fits = true) (ht : t.target unkI false false = true) : t.txt.size ≤ 12000 ∧ tval t.txt = true := by
  unfold Tree.fits at hf
  simp only [Bool.and_eq_true, decide_eq_true_eq] at hf
  refine ⟨by rw [Tree.txt, bts_size]; exact hf.2, ?_⟩
  unfold tval
  rw [Tree.txt, bts_data, parse_text hg hf.1 hf.2]; exact ht

theorem parse_leaf1 (c : UInt8) (h : atomB c = true) : parse [c] = some (.node ⟨#[c]⟩ []) := by
  have := parse_text (leaf_good c h) (by simp [Tree.depth]) (by simp [Tree.text])
  simpa [Tree.text] using this

theorem make_t {s : ByteArray} {t : Tree} (hp : parse s.data.toList = some t) (ht : t.target unkI false false = true) : ∀ out, makeF [⟨#[116]⟩, s, ⟨#[105]⟩] = some out → out.size ≤ 12000 ∧ tval out = true := by
  intro out h
  have ha : allOf [⟨#[116]⟩, s, ⟨#[105]⟩] = some [.node ⟨#[116]⟩ [], t, .node ⟨#[105]⟩ []] := by
    simp only [allOf, hp]
    rw [parse_leaf1 116 rfl, parse_leaf1 105 rfl]
  rw [makeF_some ha] at h
  split at h
  · rename_i hf
    cases h
    exact tval_txt (by have := parse_good hp; simp [Tree.good, Tree.goodL, this]; decide) hf.2 (by simp [Tree.target, Tree.targetL, Tree.atom, ht])
  · cases h
theorem make_e {s : ByteArray} {t : Tree} (hp : parse s.data.toList = some t) (ht : t.target unkI false false = true) : ∀ out, makeF [⟨#[101]⟩, s] = some out → out.size ≤ 12000 ∧ tval out = true := by
  intro out h
  have ha : allOf [⟨#[101]⟩, s] = some [.node ⟨#[101]⟩ [], t] := by
    simp only [allOf, hp]
    rw [parse_leaf1 101 rfl]
  rw [makeF_some ha] at h
  split at h
  · rename_i hf
    cases h
    exact tval_txt (by have := parse_good hp; simp [Tree.good, Tree.goodL, this]; decide) hf.2 (by simp [Tree.target, Tree.targetL, Tree.atom, target_mono unkI (h' := true) (o' := false) (fun h => by cases h) id t ht])
  · cases h

/-- What is put into a closed type leaves it. -/
theorem putOf_closed {s b : List UInt8} {t g : Tree} {o : Bool} (hp : parse s = some t) (hb : parse b = some g) (ht : t.target unkI false o = true) (hg : g.target unkI false true = true) : putOf unkI s b = some t.txt := by
  obtain ⟨h1, h2, h3, h4⟩ := (parse_iff _ _).1 hp
  have hc := put_closed unkI rfl g o t h2 ht
  rw [putOf_some hp hb, hc, if_pos, if_pos]
  · unfold Tree.fits; rw [decide_eq_true h3, decide_eq_true (by rw [← h1]; exact h4)]; rfl
  · rw [target_mono unkI (h' := true) (o' := true) (fun _ => rfl) (fun _ => rfl) t ht, hg]; rfl
end Go.Proofs.Ytcobcmgmleblkaa
