/- Expressions: the reference's reader, of texts. -/
import Derived.Test.YtoihkjnfklogpaaSExpr
namespace Go.Proofs.Ytoihkjnfklogpaa
open Go.RowKit

set_option maxRecDepth 100000 in
set_option maxHeartbeats 1600000 in
theorem l2Parse_any (s : ByteArray) (w : World) (hs : s.size ≤ 1000000000) : Calls Try.prog 23 #[.string s] w (ReadP (pexpr s.data.toList) w) := by
  have HC := Lib.hid (fun W => l1Parse_any s W hs)
  go_enter Try.func23, Try.ntmps23
  go_wp2_with fail
  refine (HC.out _).mono ?_
  rintro e w1 ⟨a, o, l, c, ok, t, rfl, hb1, hr, hok, ht⟩
  have hB : Below w.heap.size w w1 := ((Below.refl _ _).alloc (Nat.le_refl _) _).trans (hb1.mono (by simp))
  obtain ⟨hc1, hf1⟩ := bcell hb1; have hz1 := hb1.size; simp only [World.size_alloc] at hc1 hf1 hz1; have hy1_0 : w.heap.size < w1.heap.size := by omega
  cases ok
  · have HN : Hid (pexpr s.data.toList = none) := by
      show _ = _; unfold pexpr
      cases hp : parse s.data.toList with
      | none => rfl
      | some t' => rw [hp] at hok; cases hok
    clear hok ht
    go_wp2
    go_region
    go_wp2
    exact bodyPost_ret (v := .tuple #[.agg #[.string a, .slice o l c], .bool false]) (by simp [results, Try.results23, go_sem, hc1, hy1_0]) rfl ⟨_, _, _, _, _, t, rfl, (((hB.setCell (by simp) _).setCell (by simp) _).alloc (by simp; omega) _).drew,
      Rep.weak (fun b (hb : w.heap.size + 1 ≤ b) => by omega) _ _ (Rep.keep ((((Keeps.refl _ _).setCell (fun b hb => by simp at hb ⊢; omega) _).setCell (fun b hb => by simp at hb ⊢; omega) _).alloc' _).drew _ _ (Rep.weak (fun b hb => by simpa using hb) _ _ hr)), by rw [HN.out]; rfl, fun t' ht => by rw [HN.out] at ht; cases ht⟩
  · obtain ⟨t', hp⟩ : ∃ t', parse s.data.toList = some t' := by
      cases hp : parse s.data.toList with
      | none => rw [hp] at hok; cases hok
      | some t' => exact ⟨t', rfl⟩
    obtain rfl := ht _ hp
    have hsz := parse_sz hp
    obtain ⟨htx, htg, htd, htl⟩ := (parse_iff _ _).1 hp
    rw [htx] at htl
    have HN : Hid ((pexpr s.data.toList).isSome = (t.isExpr && decide (t.size ≤ 120)) ∧ ∀ t', pexpr s.data.toList = some t' → t = t') := by
      refine ⟨?_, fun t' h => ?_⟩
      · rw [pexpr_isSome, hp]
      · rw [pexpr_some, hp] at h; exact Option.some.inj h.1
    have hr := Rep.weak (A' := fun b => w.heap.size + 1 ≤ b) (fun b hb => by simpa using hb) _ _ hr
    have HT := Lib.hid (fun v w' (hr : Rep w' (fun b => w.heap.size + 1 ≤ b) t v) => l2Valid_any _ t _ v w' (Nat.le_refl _) hr (by omega) (by omega) htg)
    have HZ := Lib.hid (fun v w' (hr : Rep w' (fun b => w.heap.size + 1 ≤ b) t v) => l1Size_any _ t _ v w' (Nat.le_refl _) hr (by omega) htg)
    have hd : decide (t.size ≤ 120) = decide ((t.size : Int) ≤ 120) := by rw [Bool.eq_iff_iff]; simp; omega
    rw [hd] at HN
    generalize t.isExpr = b at HN HT
    have hzs := Tree.size_le_sz t
    generalize t.size = z at HN HZ hzs
    clear hok ht hp htx htl htd htg hd
    have hr1 := Rep.keep (Keeps.alloc _ w1 (.cells #[.string a, .slice o l c] 40)) _ _ hr
    have hB1 : Below w.heap.size w (w1.alloc (.cells #[.string a, .slice o l c] 40)) := hB.alloc (by omega) _
    obtain ⟨z1, z2⟩ := two_new w1 (.string a) (.slice o l c) 40
    have q1 : (w1.alloc (.cells #[.string a, .slice o l c] 40)).cell? ⟨w.heap.size, 0, none⟩ = some (.string ⟨#[]⟩) := (World.cell?_of_block (w := w1) (Below.heap_alloc _ _ _ hy1_0)).trans ((hc1 _ _ (by omega)).trans (two_new w _ _ _).1)
    have q2 : (w1.alloc (.cells #[.string a, .slice o l c] 40)).cell? ⟨w.heap.size, 1, none⟩ = some (.slice none 0 0) := (World.cell?_of_block (w := w1) (Below.heap_alloc _ _ _ hy1_0)).trans ((hc1 _ _ (by omega)).trans (two_new w _ _ _).2)
    have q3 : ∀ j, (w1.alloc (.cells #[.string a, .slice o l c] 40)).frozen? ⟨w.heap.size, j, none⟩ = false := fun j => (World.frozen?_of_block (w := w1) (Below.heap_alloc _ _ _ hy1_0)).trans ((hf1 _ _ (by omega)).trans (frozen_new w _ _ _))
    cases b
    · go_wp2_with fail
      go_region_with (go_at_call 50; refine (callQ (w1 := (w1.alloc (.cells #[.string a, .slice o l c] 40))) ?_ (HT.out _ _ ?_)).mono ?_; (first | assumption | exact (Below.refl _ _).drew); (exact Rep.keep (Keeps.below (by first | assumption | exact (Below.refl _ _).drew)) _ _ hr1); rintro e w' ⟨rfl, hb'⟩; have g1 := (hb'.cell (lt_of_cell z1)).trans z1; have g2 := (hb'.cell (lt_of_cell z2)).trans z2; have g3 := (hb'.cell (lt_of_cell q1)).trans q1; have g4 := (hb'.cell (lt_of_cell q2)).trans q2; have g5 := (hb'.frozen (lt_of_cell q1)).trans (q3 0); have g6 := (hb'.frozen (lt_of_cell q2)).trans (q3 1); have g7 := Nat.lt_of_lt_of_le (lt_of_cell q1) hb'.size)
      all_goals
        have hB2 := hB1.trans (hb'.mono hB1.size)
        go_wp2
        exact bodyPost_ret (v := .tuple #[.agg #[.string a, .slice o l c], .bool false]) (by simp [results, Try.results23, go_sem, g3, g4]) rfl ⟨_, _, _, _, _, t, rfl, (hB2.setCell (by simp) _).setCell (by simp) _,
          Rep.weak (fun b (hb : w.heap.size + 1 ≤ b) => by omega) _ _ (Rep.keep (((Keeps.below hb').setCell (fun b hb => by simp at hb ⊢; omega) _).setCell (fun b hb => by simp at hb ⊢; omega) _) _ _ hr1), HN.out.1.symm, HN.out.2⟩
    · go_wp2_with fail
      go_region_with (first
        | (go_at_call 50; refine (callQ (w1 := (w1.alloc (.cells #[.string a, .slice o l c] 40))) ?_ (HT.out _ _ ?_)).mono ?_; (first | assumption | exact (Below.refl _ _).drew); (exact Rep.keep (Keeps.below (by first | assumption | exact (Below.refl _ _).drew)) _ _ hr1); rintro e w' ⟨rfl, hb'⟩; have g1 := (hb'.cell (lt_of_cell z1)).trans z1; have g2 := (hb'.cell (lt_of_cell z2)).trans z2; have g3 := (hb'.cell (lt_of_cell q1)).trans q1; have g4 := (hb'.cell (lt_of_cell q2)).trans q2; have g5 := (hb'.frozen (lt_of_cell q1)).trans (q3 0); have g6 := (hb'.frozen (lt_of_cell q2)).trans (q3 1); have g7 := Nat.lt_of_lt_of_le (lt_of_cell q1) hb'.size)
        | (go_at_call 51; refine (callQ (w1 := (w1.alloc (.cells #[.string a, .slice o l c] 40))) ?_ (HZ.out _ _ ?_)).mono ?_; (first | assumption | exact (Below.refl _ _).drew); (exact Rep.keep (Keeps.below (by first | assumption | exact (Below.refl _ _).drew)) _ _ hr1); rintro e w' ⟨rfl, hb'⟩; have g1 := (hb'.cell (lt_of_cell z1)).trans z1; have g2 := (hb'.cell (lt_of_cell z2)).trans z2; have g3 := (hb'.cell (lt_of_cell q1)).trans q1; have g4 := (hb'.cell (lt_of_cell q2)).trans q2; have g5 := (hb'.frozen (lt_of_cell q1)).trans (q3 0); have g6 := (hb'.frozen (lt_of_cell q2)).trans (q3 1); have g7 := Nat.lt_of_lt_of_le (lt_of_cell q1) hb'.size))
      all_goals
        have hB2 := hB1.trans (hb'.mono hB1.size)
        go_wp2
        exact bodyPost_ret (v := .tuple #[.agg #[.string a, .slice o l c], .bool (decide ((z : Int) ≤ 120))]) (by simp [results, Try.results23, go_sem, g3, g4]) rfl ⟨_, _, _, _, _, t, rfl, (hB2.setCell (by simp) _).setCell (by simp) _,
          Rep.weak (fun b (hb : w.heap.size + 1 ≤ b) => by omega) _ _ (Rep.keep (((Keeps.below hb').setCell (fun b hb => by simp at hb ⊢; omega) _).setCell (fun b hb => by simp at hb ⊢; omega) _) _ _ hr1), HN.out.1.symm, HN.out.2⟩

set_option maxRecDepth 100000 in
set_option maxHeartbeats 400000 in
theorem sExprValid_any (s : ByteArray) (w : World) (hs : s.size ≤ 1000000000) :
    Calls Try.prog 120 #[.string s] w fun e w' => e = .returned (.bool (pexpr s.data.toList).isSome) ∧ Below w.heap.size w w' := by
  go_enter Try.func120, Try.ntmps120
  go_wp2_with (go_at_call 23; refine (l2Parse_any _ _ hs).mono ?_; rintro e w1 ⟨a, o, l, c, ok, t, rfl, hb1, hr, rfl, -⟩)
  go_ret
  exact ⟨rfl, hb1.alloc hb1.size _⟩
end Go.Proofs.Ytoihkjnfklogpaa
