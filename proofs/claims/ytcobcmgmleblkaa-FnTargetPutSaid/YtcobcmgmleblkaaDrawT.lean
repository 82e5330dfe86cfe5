/- Drawing types. -/
import Derived.Test.YtcobcmgmleblkaaDrawF
namespace Go.Proofs.Ytcobcmgmleblkaa
open Go.RowKit

/-- How long a drawn type of a depth may be; how often its drawing asks. -/
def sizeT : Nat → Nat
  | 0 => 1
  | d + 1 => 2 * sizeT d + 5
def picksT : Nat → Nat
  | 0 => 0
  | d + 1 => 2 * picksT d + 2

theorem sizeT_le (d : Nat) (h : d ≤ 5) : 1 ≤ sizeT d ∧ sizeT d ≤ 200 ∧ picksT d ≤ 70 := by
  have : d = 0 ∨ d = 1 ∨ d = 2 ∨ d = 3 ∨ d = 4 ∨ d = 5 := by omega
  rcases this with rfl | rfl | rfl | rfl | rfl | rfl <;> decide

set_option maxRecDepth 100000 in
set_option maxHeartbeats 1600000 in
theorem l91Type_any (d : Nat) : ∀ (w : World) (rb p : Nat), d ≤ 5 → Rd w rb p → p + picksT d ≤ 1000000 →
    Calls Try.prog 56 #[.pointer (some ⟨rb, 0, none⟩), .int .i64 d] w (DR (sizeT d) (picksT d) w rb p) := by
  induction d with
  | zero =>
    intro w rb p hd h hp
    go_enter Try.func56, Try.ntmps56
    go_wp2
    go_ret
    exact ⟨_, p, rfl, by decide, h, by omega, grownBy_refl _ _⟩
  | succ d ih =>
    intro w rb p hd h hp
    simp only [picksT, sizeT] at hp ⊢
    have hdb : (((d + 1 : Nat) : Int) == 0) = false := by simp; omega
    have hdc : (((d + 1 : Nat) : Int)) - 1 = (d : Int) := by omega
    have hle := sizeT_le d (by omega)
    obtain ⟨hle0, hle1, hle2⟩ := hle
    have IH := Lib.hid ih
    clear ih
    go_enter Try.func56, Try.ntmps56
    go_wp2_with fail
    refine (pick_any w rb p 2 h (by omega) (by omega) (by omega)).mono ?_
    rintro e w1 ⟨z, rfl, hz0, hz1, hrd, hg⟩
    by_cases hz : z = 0
    · subst hz
      go_wp2
      go_ret
      exact ⟨_, _, rfl, Nat.le_trans hle0 (by omega), hrd, by omega, hg⟩
    · have hzb : (z == 0) = false := by simpa using hz
      have hlt := hrd.lt
      go_wp2_with fail
      refine (of_any (fun s => s.size ≤ 1) _ rb _ w1.heap.size 2 2 (hrd.alloc _) (by have := hrd.lt; omega) (by omega) (by omega) (by omega) ?_).mono ?_
      · refine textRow_new w1 _ _ ?_
        (repeat (first | exact trivial | (refine ⟨⟨_, rfl, ?_⟩, ?_⟩; · first | assumption | decide | (simp only [ByteArray.size]; decide))))
      · rintro e w2 ⟨sg, rfl, hsg, hrd2, hg2⟩
        have hg02 := grownBy_trans (grownBy_alloc hg _) hg2
        have h1 := IH.out w2 rb _ (by omega) hrd2 (by omega)
        go_wp2_with fail
        refine h1.mono ?_
        rintro e w3 ⟨s1, p1, rfl, hs1, hrd3, hp1, hg3⟩
        have h2 := IH.out w3 rb _ (by omega) hrd3 (by omega)
        have hsz1 : s1.size ≤ 500 := by omega
        go_wp2_with fail
        refine h2.mono ?_
        rintro e w4 ⟨s2, p2, rfl, hs2, hrd4, hp2, hg4⟩
        have hsz2 : s2.size ≤ 500 := by omega
        go_wp2
        go_ret
        exact ⟨_, p2, rfl, by simp only [ByteArray.size_append, size1]; omega, hrd4, by omega, grownBy_trans hg02 (grownBy_trans hg3 hg4)⟩

set_option maxRecDepth 100000 in
set_option maxHeartbeats 1600000 in
theorem l91Typed_any (w : World) (rb p : Nat) (h : Rd w rb p) (hp : p ≤ 10000) :
    Calls Try.prog 43 #[.pointer (some ⟨rb, 0, none⟩)] w (DR 1000 1000 w rb p) := by
  have HT := Lib.hid (fun d W q (hd : d ≤ 5) hr hq => l91Type_any d W rb q hd hr hq)
  go_enter Try.func43, Try.ntmps43
  go_wp2_with fail
  refine (pick_any w rb p 16 h (by omega) (by omega) (by omega)).mono ?_
  rintro e w2 ⟨z, rfl, hz0, hz1, hrd, hg2⟩
  have hlt := hrd.lt
  by_cases h0 : z = 0
  · subst h0
    go_wp2_with fail
    refine (of_any (fun s => s.size ≤ 20) _ rb _ w2.heap.size 6 6 (hrd.alloc _) (by omega) (by omega) (by omega) (by omega) ?_).mono ?_
    · refine textRow_new w2 _ _ ?_
      (repeat (first | exact trivial | (refine ⟨⟨_, rfl, ?_⟩, ?_⟩; · first | assumption | decide | (simp only [ByteArray.size]; decide))))
    · rintro e w3 ⟨s2, rfl, hs2, hrd, hg3⟩
      go_wp2
      go_ret
      exact ⟨_, _, rfl, by omega, hrd, by omega, grownBy_trans (grownBy_alloc hg2 _) hg3⟩
  by_cases h1 : z = 1
  · subst h1
    have hc := HT.out 4 w2 _ (by omega) hrd (by simp [picksT]; omega)
    simp only [sizeT, picksT] at hc
    go_wp2_with fail
    refine hc.mono ?_
    rintro e w3 ⟨s1, p1, rfl, hs1, hrd3, hp1, hg3⟩
    have hc2 := HT.out 4 w3 _ (by omega) hrd3 (by simp [picksT]; omega)
    simp only [sizeT, picksT] at hc2
    have hsz1 : s1.size ≤ 500 := by omega
    go_wp2_with fail
    refine hc2.mono ?_
    rintro e w4 ⟨s2, p2, rfl, hs2, hrd4, hp2, hg4⟩
    have hsz2 : s2.size ≤ 500 := by omega
    have e3 : (ByteArray.mk #[40, 42, 32]).size = 3 := rfl
    go_wp2
    go_ret
    exact ⟨_, p2, rfl, by simp only [ByteArray.size_append, size1, e3]; omega, hrd4, by omega, grownBy_trans hg2 (grownBy_trans hg3 hg4)⟩
  have hb0 : (z == 0) = false := by simpa using h0
  have hb1 : (z == 1) = false := by simpa using h1
  have hc := HT.out 3 w2 _ (by omega) hrd (by simp [picksT]; omega)
  simp only [sizeT, picksT] at hc
  go_wp2_with fail
  refine hc.mono ?_
  rintro e w3 ⟨s1, p1, rfl, hs1, hrd3, hp1, hg3⟩
  go_wp2
  go_ret
  exact ⟨_, _, rfl, by omega, hrd3, by omega, grownBy_trans hg2 hg3⟩






/-- What the drawing of a mark and two texts hands back. -/
def DrawnMR (N : Nat) (w : World) (e : Ending) (w' : World) : Prop := ∃ f a b, e = .returned (.tuple #[.bool f, .string a, .string b]) ∧ a.size ≤ N ∧ b.size ≤ N ∧ Below w.heap.size w w'
/-- What the drawing of three texts hands back. -/
def DrawnSR (N : Nat) (w : World) (e : Ending) (w' : World) : Prop := ∃ a b c, e = .returned (.tuple #[.string a, .string b, .string c]) ∧ a.size ≤ N ∧ b.size ≤ N ∧ c.size ≤ N ∧ Below w.heap.size w w'


end Go.Proofs.Ytcobcmgmleblkaa
