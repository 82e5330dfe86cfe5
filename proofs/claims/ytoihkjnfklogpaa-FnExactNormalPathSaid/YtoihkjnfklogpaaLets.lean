/- Bindings of normal expressions, of the program and of the reference. -/
import Derived.Test.YtoihkjnfklogpaaNorm
import Derived.Test.YtoihkjnfklogpaaExprM
namespace Go.Proofs.Ytoihkjnfklogpaa
open Go.RowKit

/-- A text that is a normal expression. -/
def pnorm (s : List UInt8) : Option Tree := match pexpr s with
  | some t => if t.nrm true then some t else none
  | none => none
theorem pnorm_some {s : List UInt8} {t : Tree} : pnorm s = some t ↔ pexpr s = some t ∧ t.nrm true = true := by
  unfold pnorm
  cases pexpr s with
  | none => simp
  | some u =>
    show (if u.nrm true = true then some u else none) = some t ↔ _
    by_cases h : u.nrm true = true
    · rw [if_pos h]
      exact ⟨fun e => ⟨e, by rw [← Option.some.inj e]; exact h⟩, fun e => e.1⟩
    · rw [if_neg h]
      exact ⟨fun e => (by cases e), fun e => absurd (by rw [Option.some.inj e.1]; exact e.2) h⟩
theorem pnorm_isSome (s : List UInt8) : (pnorm s).isSome = isOf (Tree.nrm true) (pexpr s) := by
  unfold pnorm isOf
  cases pexpr s with
  | none => rfl
  | some t => cases h : t.nrm true <;> simp [h]



set_option maxRecDepth 100000 in
set_option maxHeartbeats 800000 in
theorem readNormal_any (s : ByteArray) (w : World) (hs : s.size ≤ 1000000000) : Calls Try.prog 31 #[.string s] w (ReadP (pnorm s.data.toList) w) := by
  have HC := Lib.hid (fun W => readExpr_any s W hs)
  go_enter Try.func31, Try.ntmps31
  go_wp2_with fail
  refine (HC.out _).mono ?_
  rintro e w1 ⟨a, o, l, c, ok, t, rfl, hb1, hr, hok, ht⟩
  have hB : Below w.heap.size w w1 := ((Below.refl _ _).alloc (Nat.le_refl _) _).trans (hb1.mono (by simp))
  obtain ⟨hc1, hf1⟩ := bcell hb1; have hz1 := hb1.size; simp only [World.size_alloc] at hc1 hf1 hz1; have hy1_0 : w.heap.size < w1.heap.size := by omega
  cases ok
  · have HN : Hid (pnorm s.data.toList = none) := by
      show _ = _; unfold pnorm
      cases hp : pexpr s.data.toList with
      | none => rfl
      | some t' => rw [hp] at hok; cases hok
    clear hok ht
    go_wp2
    go_region
    go_wp2
    exact bodyPost_ret (v := .tuple #[.agg #[.string a, .slice o l c], .bool false]) (by simp [results, Try.results31, go_sem, hc1, hy1_0]) rfl ⟨_, _, _, _, _, t, rfl, (((hB.setCell (by simp) _).setCell (by simp) _).alloc (by simp; omega) _).drew,
      Rep.weak (fun b (hb : w.heap.size + 1 ≤ b) => by omega) _ _ (Rep.keep ((((Keeps.refl _ _).setCell (fun b hb => by simp at hb ⊢; omega) _).setCell (fun b hb => by simp at hb ⊢; omega) _).alloc' _).drew _ _ (Rep.weak (fun b hb => by simpa using hb) _ _ hr)), by rw [HN.out]; rfl, fun t' ht => by rw [HN.out] at ht; cases ht⟩
  · obtain ⟨t', hp⟩ : ∃ t', pexpr s.data.toList = some t' := by
      cases hp : pexpr s.data.toList with
      | none => rw [hp] at hok; cases hok
      | some t' => exact ⟨t', rfl⟩
    obtain rfl := ht _ hp
    obtain ⟨hg, hsz, htx, he, -⟩ := pexpr_facts hp
    have HN : Hid ((pnorm s.data.toList).isSome = t.nrm true ∧ ∀ t', pnorm s.data.toList = some t' → t = t') := by
      refine ⟨?_, fun t' h => ?_⟩
      · rw [pnorm_isSome, hp]; rfl
      · rw [pnorm_some, hp] at h; exact Option.some.inj h.1
    have hr := Rep.weak (A' := fun b => w.heap.size + 1 ≤ b) (fun b hb => by simpa using hb) _ _ hr
    have HT := Lib.hid (fun v w' (hr : Rep w' (fun b => w.heap.size + 1 ≤ b) t v) => (isNormal_all _).2 t _ v w' (Nat.le_refl _) hr hsz htx hg he)
    generalize t.nrm true = b at HN HT
    clear hok ht hp hg hsz htx he
    go_wp2_with fail
    obtain ⟨z1, z2⟩ := two_new w1 (.string a) (.slice o l c) 46
    have hr1 := Rep.keep (Keeps.alloc _ w1 (.cells #[.string a, .slice o l c] 46)) _ _ hr
    have hB1 : Below w.heap.size w (w1.alloc (.cells #[.string a, .slice o l c] 46)) := hB.alloc (by omega) _
    have q1 : (w1.alloc (.cells #[.string a, .slice o l c] 46)).cell? ⟨w.heap.size, 0, none⟩ = some (.string ⟨#[]⟩) := (World.cell?_of_block (w := w1) (Below.heap_alloc _ _ _ hy1_0)).trans ((hc1 _ _ (by omega)).trans (two_new w _ _ _).1)
    have q2 : (w1.alloc (.cells #[.string a, .slice o l c] 46)).cell? ⟨w.heap.size, 1, none⟩ = some (.slice none 0 0) := (World.cell?_of_block (w := w1) (Below.heap_alloc _ _ _ hy1_0)).trans ((hc1 _ _ (by omega)).trans (two_new w _ _ _).2)
    have q3 : ∀ j, (w1.alloc (.cells #[.string a, .slice o l c] 46)).frozen? ⟨w.heap.size, j, none⟩ = false := fun j => (World.frozen?_of_block (w := w1) (Below.heap_alloc _ _ _ hy1_0)).trans ((hf1 _ _ (by omega)).trans (frozen_new w _ _ _))
    go_region_with (go_at_call 57; refine (callQ (w1 := (w1.alloc (.cells #[.string a, .slice o l c] 46))) ?_ (HT.out _ _ ?_)).mono ?_; (first | assumption | exact (Below.refl _ _).drew); (exact Rep.keep (Keeps.below (by first | assumption | exact (Below.refl _ _).drew)) _ _ hr1); rintro e w' ⟨rfl, hb'⟩; have g1 := (hb'.cell (lt_of_cell z1)).trans z1; have g2 := (hb'.cell (lt_of_cell z2)).trans z2; have g3 := (hb'.cell (lt_of_cell q1)).trans q1; have g4 := (hb'.cell (lt_of_cell q2)).trans q2; have g5 := (hb'.frozen (lt_of_cell q1)).trans (q3 0); have g6 := (hb'.frozen (lt_of_cell q2)).trans (q3 1); have g7 := Nat.lt_of_lt_of_le (lt_of_cell q1) hb'.size)
    all_goals
      have hB2 := hB1.trans (hb'.mono hB1.size)
      go_wp2
      exact bodyPost_ret (v := .tuple #[.agg #[.string a, .slice o l c], .bool b]) (by simp [results, Try.results31, go_sem, g3, g4]) rfl ⟨_, _, _, _, _, t, rfl, (hB2.setCell (by simp) _).setCell (by simp) _,
        Rep.weak (fun b (hb : w.heap.size + 1 ≤ b) => by omega) _ _ (Rep.keep (((Keeps.below hb').setCell (fun b hb => by simp at hb ⊢; omega) _).setCell (fun b hb => by simp at hb ⊢; omega) _) _ _ hr1), HN.out.1.symm, HN.out.2⟩


end Go.Proofs.Ytoihkjnfklogpaa
