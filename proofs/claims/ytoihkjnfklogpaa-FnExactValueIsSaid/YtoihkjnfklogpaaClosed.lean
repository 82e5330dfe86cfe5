/- Closed expressions, and how often a name stands free; of the program and of the reference. -/
import Derived.Test.YtoihkjnfklogpaaFreeT
import Derived.Test.YtoihkjnfklogpaaExprM
namespace Go.Proofs.Ytoihkjnfklogpaa
open Go.RowKit

/-- The free names of a tree, each once. -/
def Tree.fnames (t : Tree) : List ByteArray := (t.occ []).foldl addS []
/-- A text that is a closed expression. -/
def pclosed (s : List UInt8) : Option Tree := match pexpr s with
  | some t => if t.fnames.length = 0 then some t else none
  | none => none
theorem pclosed_some {s : List UInt8} {t : Tree} : pclosed s = some t ↔ pexpr s = some t ∧ t.fnames.length = 0 := by
  unfold pclosed
  cases pexpr s with
  | none => simp
  | some u =>
    show (if u.fnames.length = 0 then some u else none) = some t ↔ _
    by_cases h : u.fnames.length = 0
    · rw [if_pos h]
      exact ⟨fun e => ⟨e, by rw [← Option.some.inj e]; exact h⟩, fun e => e.1⟩
    · rw [if_neg h]
      exact ⟨fun e => (by cases e), fun e => absurd (by rw [Option.some.inj e.1]; exact e.2) h⟩
theorem pclosed_isSome (s : List UInt8) : (pclosed s).isSome = match freeOf s with | some l => decide (l.length = 0) | none => false := by
  unfold pclosed freeOf
  cases pexpr s with
  | none => rfl
  | some t =>
    show (if t.fnames.length = 0 then some t else none).isSome = decide (t.fnames.length = 0)
    by_cases h : t.fnames.length = 0
    · rw [if_pos h, decide_eq_true h]; rfl
    · rw [if_neg h, decide_eq_false h]; rfl

set_option maxRecDepth 100000 in
set_option maxHeartbeats 800000 in
theorem sExprClosed_any (s : ByteArray) (w : World) (hs : s.size ≤ 1000000000) :
    Calls Try.prog 24 #[.string s] w fun e w' => e = .returned (.bool (pclosed s.data.toList).isSome) ∧ Below w.heap.size w w' := by
  have HC := sExprFree_any s w hs
  unfold TextsR at HC
  have HP := Lib.hid (pclosed_isSome s.data.toList)
  cases hf : freeOf s.data.toList with
  | none =>
    rw [hf] at HC
    have HF := Lib.hid hf
    have HC := Lib.hid HC
    clear hf
    go_enter Try.func24, Try.ntmps24
    go_wp2_with fail
    refine HC.out.mono ?_
    rintro e w1 ⟨v, rfl, hrow, hb1⟩
    clear hrow
    go_wp2
    go_ret
    exact ⟨ret_bool (by rw [HP.out, HF.out]), hb1⟩
  | some l =>
    rw [hf] at HC
    have HF := Lib.hid hf
    have HC := Lib.hid HC
    clear hf
    by_cases hl : l.length = 0
    · have hlb : ((l.length : Int) == 0) = true := by rw [hl]; rfl
      have HT : Hid ((pclosed s.data.toList).isSome = true) := by show _ = _; rw [HP.out, HF.out]; exact decide_eq_true hl
      clear HP HF hl
      go_enter Try.func24, Try.ntmps24
      go_wp2_with fail
      refine HC.out.mono ?_
      rintro e w1 ⟨v, rfl, hrow, hb1⟩
      obtain ⟨vo, vc, rfl, -⟩ := hrow.forms
      clear hrow
      simp only [Option.getD_some, Option.isSome_some] at *
      generalize l.length = n at *
      go_wp2
      go_ret
      exact ⟨ret_bool HT.out.symm, hb1⟩
    · have hlb : ((l.length : Int) == 0) = false := by simp only [beq_eq_false_iff_ne, ne_eq]; omega
      have HT : Hid ((pclosed s.data.toList).isSome = false) := by show _ = _; rw [HP.out, HF.out]; exact decide_eq_false hl
      clear HP HF
      go_enter Try.func24, Try.ntmps24
      go_wp2_with fail
      refine HC.out.mono ?_
      rintro e w1 ⟨v, rfl, hrow, hb1⟩
      obtain ⟨vo, vc, rfl, -⟩ := hrow.forms
      clear hrow
      simp only [Option.getD_some, Option.isSome_some] at *
      generalize l.length = n at *
      go_wp2
      go_ret
      exact ⟨ret_bool HT.out.symm, hb1⟩

set_option maxRecDepth 100000 in
set_option maxHeartbeats 800000 in
theorem readClosed_any (s : ByteArray) (w : World) (hs : s.size ≤ 1000000000) : Calls Try.prog 26 #[.string s] w (ReadP (pclosed s.data.toList) w) := by
  have HC := Lib.hid (fun W => readExpr_any s W hs)
  go_enter Try.func26, Try.ntmps26
  go_wp2_with fail
  refine (HC.out _).mono ?_
  rintro e w1 ⟨a, o, l, c, ok, t, rfl, hb1, hr, hok, ht⟩
  have hB : Below w.heap.size w w1 := ((Below.refl _ _).alloc (Nat.le_refl _) _).trans (hb1.mono (by simp))
  obtain ⟨hc1, hf1⟩ := bcell hb1; have hz1 := hb1.size; simp only [World.size_alloc] at hc1 hf1 hz1; have hy1_0 : w.heap.size < w1.heap.size := by omega
  cases ok
  · have HN : Hid (pclosed s.data.toList = none) := by
      show _ = _; unfold pclosed
      cases hp : pexpr s.data.toList with
      | none => rfl
      | some t' => rw [hp] at hok; cases hok
    clear hok ht
    go_wp2
    go_region
    go_wp2
    exact bodyPost_ret (v := .tuple #[.agg #[.string a, .slice o l c], .bool false]) (by simp [results, Try.results26, go_sem, hc1, hy1_0]) rfl ⟨_, _, _, _, _, t, rfl, (((hB.setCell (by simp) _).setCell (by simp) _).alloc (by simp; omega) _).drew,
      Rep.weak (fun b (hb : w.heap.size + 1 ≤ b) => by omega) _ _ (Rep.keep ((((Keeps.refl _ _).setCell (fun b hb => by simp at hb ⊢; omega) _).setCell (fun b hb => by simp at hb ⊢; omega) _).alloc' _).drew _ _ (Rep.weak (fun b hb => by simpa using hb) _ _ hr)), by rw [HN.out]; rfl, fun t' ht => by rw [HN.out] at ht; cases ht⟩
  · obtain ⟨t', hp⟩ : ∃ t', pexpr s.data.toList = some t' := by
      cases hp : pexpr s.data.toList with
      | none => rw [hp] at hok; cases hok
      | some t' => exact ⟨t', rfl⟩
    obtain rfl := ht _ hp
    obtain ⟨hg, hsz, htx, he, -⟩ := pexpr_facts hp
    have HN : Hid ((pclosed s.data.toList).isSome = decide ((t.fnames.length : Int) = 0) ∧ ∀ t', pclosed s.data.toList = some t' → t = t') := by
      refine ⟨?_, fun t' h => ?_⟩
      · rw [pclosed_isSome]; unfold freeOf; rw [hp]; show decide (t.fnames.length = 0) = _; rw [Bool.eq_iff_iff]; simp
      · rw [pclosed_some, hp] at h; exact Option.some.inj h.1
    have hr := Rep.weak (A' := fun b => w.heap.size + 1 ≤ b) (fun b hb => by simpa using hb) _ _ hr
    have HT := Lib.hid (fun v w' (hr : Rep w' (fun b => w.heap.size + 1 ≤ b) t v) => freeNames_any t _ v w' hr hsz htx hg he)
    have hbb : decide ((t.fnames.length : Int) = 0) = ((t.fnames.length : Int) == 0) := rfl
    rw [hbb] at HN
    change Hid (∀ v w', Rep w' (fun b => w.heap.size + 1 ≤ b) t v → Calls Try.prog 46 #[v] w' (RowR t.fnames w')) at HT
    generalize hL : t.fnames = L at HN HT
    generalize hbq : ((L.length : Int) == 0) = b at HN
    clear hL hbb
    clear hok ht hp hg hsz htx he
    go_wp2_with fail
    obtain ⟨z1, z2⟩ := two_new w1 (.string a) (.slice o l c) 46
    have hr1 := Rep.keep (Keeps.alloc _ w1 (.cells #[.string a, .slice o l c] 46)) _ _ hr
    have hB1 : Below w.heap.size w (w1.alloc (.cells #[.string a, .slice o l c] 46)) := hB.alloc (by omega) _
    have q1 : (w1.alloc (.cells #[.string a, .slice o l c] 46)).cell? ⟨w.heap.size, 0, none⟩ = some (.string ⟨#[]⟩) := (World.cell?_of_block (w := w1) (Below.heap_alloc _ _ _ hy1_0)).trans ((hc1 _ _ (by omega)).trans (two_new w _ _ _).1)
    have q2 : (w1.alloc (.cells #[.string a, .slice o l c] 46)).cell? ⟨w.heap.size, 1, none⟩ = some (.slice none 0 0) := (World.cell?_of_block (w := w1) (Below.heap_alloc _ _ _ hy1_0)).trans ((hc1 _ _ (by omega)).trans (two_new w _ _ _).2)
    have q3 : ∀ j, (w1.alloc (.cells #[.string a, .slice o l c] 46)).frozen? ⟨w.heap.size, j, none⟩ = false := fun j => (World.frozen?_of_block (w := w1) (Below.heap_alloc _ _ _ hy1_0)).trans ((hf1 _ _ (by omega)).trans (frozen_new w _ _ _))
    go_region_with (go_at_call 46; refine (HT.out _ _ ?_).mono ?_; (exact Rep.keep (Keeps.below (by first | assumption | exact (Below.refl _ _).drew)) _ _ hr1); rintro e w' ⟨v', rfl, hrow', hb0⟩; obtain ⟨vo, vc, rfl, -⟩ := hrow'.forms; clear hrow'; have hb' : Below (w1.alloc (.cells #[.string a, .slice o l c] 46)).heap.size (w1.alloc (.cells #[.string a, .slice o l c] 46)) w' := (show Below (w1.alloc (.cells #[.string a, .slice o l c] 46)).heap.size (w1.alloc (.cells #[.string a, .slice o l c] 46)) _ from (by first | assumption | exact (Below.refl _ _).drew)).trans (hb0.mono (by first | exact Nat.le_refl _ | assumption)); have g1 := (hb'.cell (lt_of_cell z1)).trans z1; have g2 := (hb'.cell (lt_of_cell z2)).trans z2; have g3 := (hb'.cell (lt_of_cell q1)).trans q1; have g4 := (hb'.cell (lt_of_cell q2)).trans q2; have g5 := (hb'.frozen (lt_of_cell q1)).trans (q3 0); have g6 := (hb'.frozen (lt_of_cell q2)).trans (q3 1); have g7 := Nat.lt_of_lt_of_le (lt_of_cell q1) hb'.size)
    all_goals
      have hB2 := hB1.trans (hb'.mono hB1.size)
      go_wp2
      exact bodyPost_ret (v := .tuple #[.agg #[.string a, .slice o l c], .bool b]) (by simp [results, Try.results26, go_sem, g3, g4]) rfl ⟨_, _, _, _, _, t, rfl, (hB2.setCell (by simp) _).setCell (by simp) _,
        Rep.weak (fun b (hb : w.heap.size + 1 ≤ b) => by omega) _ _ (Rep.keep (((Keeps.below hb').setCell (fun b hb => by simp at hb ⊢; omega) _).setCell (fun b hb => by simp at hb ⊢; omega) _) _ _ hr1), HN.out.1.symm, HN.out.2⟩

end Go.Proofs.Ytoihkjnfklogpaa
