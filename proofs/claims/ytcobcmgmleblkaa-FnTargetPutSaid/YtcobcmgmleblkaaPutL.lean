/- Putting: what is drawn reads the same to both, and what comes of it. -/
import Derived.Test.YtcobcmgmleblkaaPutU
import Derived.Test.YtcobcmgmleblkaaPutW
import Derived.Test.YtcobcmgmleblkaaTgtM
namespace Go.Proofs.Ytcobcmgmleblkaa
open Go.RowKit

theorem parse_is {s : List UInt8} {t u : Tree} (h : parse s = some t) (hs : s = u.text) (hg : u.good = true) (hd : u.depth ≤ 60) (hl : u.text.length ≤ 12000) : t = u := by
  rw [hs, parse_text hg hd hl] at h
  exact (Option.some.inj h).symm
theorem unk_a0 : unkI [97, 48] = unkR [97, 48] := by decide
theorem unk_a12 : unkI [97, 49, 50] = unkR [97, 49, 50] := by decide
theorem unk_a01 : unkI [97, 48, 49] = unkR [97, 48, 49] := by decide

theorem agree_na {n : Nat} {s : ByteArray} {t : Tree} (h : NA n s) (hp : parse s.data.toList = some t) (hd : Bool) : t.target unkI hd true = t.target unkR hd true :=
  target_na unkI_na unkR_na true t hd (by rw [← ((parse_iff _ _).1 hp).1]; exact h.2)
theorem agree_s {s : ByteArray} {t : Tree} (h : PutS s) (hp : parse s.data.toList = some t) : t.target unkI true true = t.target unkR true true := by
  rcases h with h | rfl
  · exact agree_na h hp true
  · have := parse_is (u := .node ⟨#[]⟩ [.node ⟨#[99]⟩ [], .node ⟨#[97, 48]⟩ [], .node ⟨#[118]⟩ []]) hp (by simp [Tree.text, textL_cons]) (by decide) (by simp [Tree.depth, Tree.depthL]) (by simp [Tree.text, textL_cons])
    subst this
    simp only [Tree.target, Tree.targetL, unk_a0]
    simp [Tree.atom]
theorem agree_b {s : ByteArray} {t : Tree} (h : PutB s) (hp : parse s.data.toList = some t) : t.target unkI false true = t.target unkR false true := by
  rcases h with h | rfl | rfl | rfl
  · exact agree_na h hp false
  · have := parse_is (u := .node ⟨#[97, 48]⟩ []) hp (by simp [Tree.text]) (by decide) (by simp [Tree.depth]) (by simp [Tree.text])
    subst this
    simp only [Tree.target, unk_a0]
  · have := parse_is (u := .node ⟨#[97, 49, 50]⟩ []) hp (by simp [Tree.text]) (by decide) (by simp [Tree.depth]) (by simp [Tree.text])
    subst this
    simp only [Tree.target, unk_a12]
  · have := parse_is (u := .node ⟨#[97, 48, 49]⟩ []) hp (by simp [Tree.text]) (by decide) (by simp [Tree.depth]) (by simp [Tree.text])
    subst this
    simp only [Tree.target, unk_a01]
theorem putOf_same {s b : ByteArray} (hs : PutS s) (hb : PutB b) : putOf unkR s.data.toList b.data.toList = putOf unkI s.data.toList b.data.toList := by
  cases h1 : parse s.data.toList with
  | none => rw [putOf_none1 h1, putOf_none1 h1]
  | some t =>
    cases h2 : parse b.data.toList with
    | none => rw [putOf_none2 h2, putOf_none2 h2]
    | some g => rw [putOf_some h1 h2, putOf_some h1 h2, agree_s hs h1, agree_b hb h2]
theorem PutS.size {s : ByteArray} (h : PutS s) : s.size ≤ 3000 := by
  rcases h with h | rfl
  · exact h.1
  · decide
theorem PutB.size {s : ByteArray} (h : PutB s) : s.size ≤ 3000 := by
  rcases h with h | rfl | rfl | rfl
  · exact h.1
  all_goals decide

/-- What comes of putting. -/
theorem putOf_out {s b : List UInt8} {out : ByteArray} (h : putOf unkI s b = some out) : out.size ≤ 12000 ∧ putOf unkI out.data.toList [40, 116, 41] = some out ∧ putOf unkI [118] b = some (bts b) := by
  cases h1 : parse s with
  | none => rw [putOf_none1 h1] at h; cases h
  | some t =>
    cases h2 : parse b with
    | none => rw [putOf_none2 h2] at h; cases h
    | some g =>
      rw [putOf_some h1 h2] at h
      split at h
      · rename_i ht
        split at h
        · rename_i hf
          cases h
          simp only [Bool.and_eq_true] at ht
          have hg1 := parse_good h1
          have hg2 := parse_good h2
          have hpg := put_good hg2 t hg1
          have hpt := put_target unkI true ht.2 t hg1 ht.1
          unfold Tree.fits at hf
          simp only [Bool.and_eq_true, decide_eq_true_eq] at hf
          have hpp := parse_text hpg hf.1 hf.2
          have hpq : parse [40, 116, 41] = some (.node ⟨#[]⟩ [.node ⟨#[116]⟩ []]) := by
            have := parse_text (t := .node ⟨#[]⟩ [.node ⟨#[116]⟩ []]) (by decide) (by simp [Tree.depth, Tree.depthL]) (by simp [Tree.text, textL_cons])
            simpa [Tree.text, Tree.textL] using this
          refine ⟨by rw [Tree.txt, bts_size]; exact hf.2, ?_, ?_⟩
          · rw [Tree.txt, bts_data, putOf_closed hpp hpq hpt (by simp [Tree.target, Tree.targetL, Tree.atom])]; rfl
          · obtain ⟨i1, i2, i3, i4⟩ := (parse_iff _ _).1 h2
            rw [putOf_some (parse_leaf1 118 rfl) h2, put_v g rfl, ht.2, if_pos, if_pos]
            · rw [i1]; rfl
            · unfold Tree.fits; rw [decide_eq_true i3, decide_eq_true (by rw [← i1]; exact i4)]; rfl
            · simp [Tree.target]
        · cases h
      · cases h
end Go.Proofs.Ytcobcmgmleblkaa
