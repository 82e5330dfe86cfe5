/- The contracts of the order of a type, of the program and of the reference. -/
import Derived.Test.YtcobcmgmleblkaaType
import Derived.Deep.RegionHeld3
import Derived.Deep.RegionWith
namespace Go.Proofs.Ytcobcmgmleblkaa
open Go.RowKit

theorem isType_cases {a : ByteArray} {ps : List Tree} (h : (Tree.node a ps).isType = true) : ps = [] ∨ ∃ p x y, ps = [p, x, y] ∧ x.isType = true ∧ y.isType = true ∧ (p.atom.data.toList = [62] ∨ p.atom.data.toList = [42]) := by
  match ps, h with
  | [], _ => exact .inl rfl
  | [_], h => simp [Tree.isType] at h
  | [_, _], h => simp [Tree.isType] at h
  | [p, x, y], h => simp [Tree.isType] at h; exact .inr ⟨p, x, y, rfl, h.1.2, h.2, h.1.1⟩
  | _ :: _ :: _ :: _ :: _, h => simp [Tree.isType] at h

theorem order_le (n : Nat) : ∀ t : Tree, t.sz ≤ n → t.order ≤ t.sz := by
  induction n with
  | zero => intro t h; cases t; simp [Tree.sz] at h
  | succ n ih =>
    intro t h
    obtain ⟨a, ps⟩ := t
    match ps, h with
    | [], _ => simp [Tree.order]
    | [_], _ => simp [Tree.order]
    | [_, _], _ => simp [Tree.order]
    | [p, x, y], h =>
      simp only [Tree.sz, Tree.szL] at h
      have h1 := ih x (by omega)
      have h2 := ih y (by omega)
      simp only [Tree.order, Tree.sz, Tree.szL]
      split <;> omega
    | _ :: _ :: _ :: _ :: _, _ => simp [Tree.order]


/-- A text that is a type. -/
def ptype (s : List UInt8) : Option Tree := match parse s with | some t => if t.typed then some t else none | none => none

theorem ptype_some {s : List UInt8} {t : Tree} : ptype s = some t ↔ parse s = some t ∧ t.typed = true := by
  unfold ptype
  cases h : parse s with
  | none => simp
  | some t' =>
    by_cases ht : t'.typed = true
    · simp only [ht, if_true, Option.some.injEq]
      constructor
      · rintro rfl; exact ⟨rfl, ht⟩
      · exact fun h => h.1
    · simp only [ht, if_false, Option.some.injEq, Bool.false_eq_true]
      constructor
      · intro h; cases h
      · rintro ⟨rfl, h⟩; exact absurd h ht

set_option maxRecDepth 100000 in
set_option maxHeartbeats 400000 in
theorem typed_any (t : Tree) (A : Nat → Prop) (v : Value) (w : World) (hr : Rep w A t v) (hb : t.sz ≤ 1000000000) :
    Calls Try.prog 41 #[v] w fun e w' => e = .returned (.bool t.typed) ∧ Below w.heap.size w w' := by
  have HT := Lib.hid (fun v w hr => isType_any _ t A v w (Nat.le_refl _) hr hb)
  have HZ := Lib.hid (fun v w hr => size_any _ t A v w (Nat.le_refl _) hr hb)
  have hsz := Tree.size_le_sz t
  have hd : t.typed = (t.isType && decide ((t.size : Int) ≤ 16)) := by unfold Tree.typed; rw [Bool.eq_iff_iff]; simp; omega
  rw [hd]
  clear hd
  generalize t.isType = b at *
  generalize t.size = z at *
  obtain ⟨s, ps⟩ := t
  have hr' := hr
  simp only [Rep] at hr
  obtain ⟨o, l, c, rfl, hs, hcap⟩ := hr
  obtain rfl := hs.len
  have B0 := boxed0 w (.string s) (.slice o ps.length c) 38
  go_enter Try.func41, Try.ntmps41
  go_wp2_with fail
  refine (HT.out _ _ (Rep.keep (Keeps.alloc _ _ _) _ _ hr')).mono ?_
  rintro e w1 ⟨rfl, hb1⟩
  have B1 := Below.next B0 hb1; obtain ⟨x1, y1, hB1, hl1⟩ := boxed B1; clear hb1
  cases b
  · go_wp2
    go_ret
    exact ⟨rfl, hB1⟩
  · go_wp2_with fail
    refine (HZ.out _ _ (Rep.keep (Keeps.below hB1) _ _ hr')).mono ?_
    rintro e w2 ⟨rfl, hb2⟩
    have B2 := Below.next B1 hb2; obtain ⟨x2, y2, hB2, hl2⟩ := boxed B2; clear hb2
    go_wp2
    go_ret
    exact ⟨rfl, hB2⟩

set_option maxRecDepth 100000 in
set_option maxHeartbeats 800000 in
theorem readType_any (s : ByteArray) (w : World) (hs : s.size ≤ 1000000000) : Calls Try.prog 31 #[.string s] w (ReadP (ptype s.data.toList) w) := by
  have HC := Lib.hid (fun W => read_any s W hs)
  go_enter Try.func31, Try.ntmps31
  go_wp2_with fail
  refine (HC.out _).mono ?_
  rintro e w1 ⟨a, o, l, c, ok, t, rfl, hb1, hr, hok, ht⟩
  have hB : Below w.heap.size w w1 := ((Below.refl _ _).alloc (Nat.le_refl _) _).trans (hb1.mono (by simp))
  obtain ⟨hc1, hf1⟩ := bcell hb1; have hz1 := hb1.size; simp only [World.size_alloc] at hc1 hf1 hz1; have hy1_0 : w.heap.size < w1.heap.size := by omega
  cases ok
  · have HN : Hid (ptype s.data.toList = none) := by
      show _ = _; unfold ptype
      cases hp : parse s.data.toList with
      | none => rfl
      | some t' => rw [hp] at hok; cases hok
    clear hok ht
    go_wp2
    go_region
    go_wp2
    exact bodyPost_ret (v := .tuple #[.agg #[.string a, .slice o l c], .bool false]) (by simp [results, Try.results31, go_sem, hc1, hy1_0]) rfl ⟨_, _, _, _, _, t, rfl, (((hB.setCell (by simp) _).setCell (by simp) _).alloc (by simp; omega) _).drew,
      Rep.weak (fun b (hb : w.heap.size + 1 ≤ b) => by omega) _ _ (Rep.keep ((((Keeps.refl _ _).setCell (fun b hb => by simp at hb ⊢; omega) _).setCell (fun b hb => by simp at hb ⊢; omega) _).alloc' _).drew _ _ (Rep.weak (fun b hb => by simpa using hb) _ _ hr)), by rw [HN.out]; rfl, fun t' ht => by rw [HN.out] at ht; cases ht⟩
  · obtain ⟨t', hp⟩ : ∃ t', parse s.data.toList = some t' := by
      cases hp : parse s.data.toList with
      | none => rw [hp] at hok; cases hok
      | some t' => exact ⟨t', rfl⟩
    obtain rfl := ht _ hp
    have hsz := parse_sz hp
    have HN : Hid ((ptype s.data.toList).isSome = t.typed ∧ ∀ t', ptype s.data.toList = some t' → t = t') := by
      refine ⟨?_, fun t' h => ?_⟩
      · unfold ptype; rw [hp]; cases h : t.typed <;> simp [h]
      · rw [ptype_some, hp] at h; exact Option.some.inj h.1
    have hr := Rep.weak (A' := fun b => w.heap.size + 1 ≤ b) (fun b hb => by simpa using hb) _ _ hr
    have HT := Lib.hid (fun v w' (hr : Rep w' (fun b => w.heap.size + 1 ≤ b) t v) => typed_any t _ v w' hr (by omega))
    generalize t.typed = b at HN HT
    clear hok ht hp
    go_wp2_with fail
    obtain ⟨z1, z2⟩ := two_new w1 (.string a) (.slice o l c) 38
    have hr1 := Rep.keep (Keeps.alloc _ w1 (.cells #[.string a, .slice o l c] 38)) _ _ hr
    have hB1 : Below w.heap.size w (w1.alloc (.cells #[.string a, .slice o l c] 38)) := hB.alloc (by omega) _
    have q1 : (w1.alloc (.cells #[.string a, .slice o l c] 38)).cell? ⟨w.heap.size, 0, none⟩ = some (.string ⟨#[]⟩) := (World.cell?_of_block (w := w1) (Below.heap_alloc _ _ _ hy1_0)).trans ((hc1 _ _ (by omega)).trans (two_new w _ _ _).1)
    have q2 : (w1.alloc (.cells #[.string a, .slice o l c] 38)).cell? ⟨w.heap.size, 1, none⟩ = some (.slice none 0 0) := (World.cell?_of_block (w := w1) (Below.heap_alloc _ _ _ hy1_0)).trans ((hc1 _ _ (by omega)).trans (two_new w _ _ _).2)
    have q3 : ∀ j, (w1.alloc (.cells #[.string a, .slice o l c] 38)).frozen? ⟨w.heap.size, j, none⟩ = false := fun j => (World.frozen?_of_block (w := w1) (Below.heap_alloc _ _ _ hy1_0)).trans ((hf1 _ _ (by omega)).trans (frozen_new w _ _ _))
    go_region_with (go_at_call 41; refine (callQ (w1 := (w1.alloc (.cells #[.string a, .slice o l c] 38))) ?_ (HT.out _ _ ?_)).mono ?_; (first | assumption | exact (Below.refl _ _).drew); (exact Rep.keep (Keeps.below (by first | assumption | exact (Below.refl _ _).drew)) _ _ hr1); rintro e w' ⟨rfl, hb'⟩; have g1 := (hb'.cell (lt_of_cell z1)).trans z1; have g2 := (hb'.cell (lt_of_cell z2)).trans z2; have g3 := (hb'.cell (lt_of_cell q1)).trans q1; have g4 := (hb'.cell (lt_of_cell q2)).trans q2; have g5 := (hb'.frozen (lt_of_cell q1)).trans (q3 0); have g6 := (hb'.frozen (lt_of_cell q2)).trans (q3 1); have g7 := Nat.lt_of_lt_of_le (lt_of_cell q1) hb'.size)
    all_goals
      have hB2 := hB1.trans (hb'.mono hB1.size)
      go_wp2
      exact bodyPost_ret (v := .tuple #[.agg #[.string a, .slice o l c], .bool b]) (by simp [results, Try.results31, go_sem, g3, g4]) rfl ⟨_, _, _, _, _, t, rfl, (hB2.setCell (by simp) _).setCell (by simp) _,
        Rep.weak (fun b (hb : w.heap.size + 1 ≤ b) => by omega) _ _ (Rep.keep (((Keeps.below hb').setCell (fun b hb => by simp at hb ⊢; omega) _).setCell (fun b hb => by simp at hb ⊢; omega) _) _ _ hr1), HN.out.1.symm, HN.out.2⟩
end Go.Proofs.Ytcobcmgmleblkaa
