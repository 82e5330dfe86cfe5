/- The contracts of the small functions on numbers. -/
import Derived.Test.YtnigldipenpebaaRow
import Derived.Test.YtnigldipenpebaaProg
import Derived.WalkKit
import Derived.WalkSpells
import Derived.WalkLawsBesides
import Derived.Lib.Hide
namespace Go.Proofs.Ytnigldipenpebaa
open Go.RowKit

/-- Is a number in a range? -/
def inB (n lo hi : Int) : Bool := decide (lo ≤ n) && decide (n ≤ hi)

theorem inB_iff {n lo hi : Int} : inB n lo hi = true ↔ lo ≤ n ∧ n ≤ hi := by unfold inB; simp

theorem inB_no {n lo hi : Int} (h : ¬ (lo ≤ n ∧ n ≤ hi)) : inB n lo hi = false := by
  cases e : inB n lo hi with
  | false => rfl
  | true => exact absurd (inB_iff.1 e) h

theorem within_any (n lo hi : Int) (w : World) :
    Calls Try.prog 40 #[.int .i64 n, .int .i64 lo, .int .i64 hi] w fun e w' => e = .returned (.bool (inB n lo hi)) ∧ w = w' := by
  by_cases h1 : lo ≤ n
  · by_cases h2 : n ≤ hi
    · go_enter Try.func40, Try.ntmps40
      go_wp2
      go_ret
      exact ⟨ret_bool (by unfold inB; simp [h1, h2]), rfl⟩
    · go_enter Try.func40, Try.ntmps40
      go_wp2
      go_ret
      exact ⟨ret_bool (by unfold inB; simp; omega), rfl⟩
  · go_enter Try.func40, Try.ntmps40
    go_wp2
    go_ret
    exact ⟨ret_bool (by unfold inB; simp; omega), rfl⟩

theorem l6In_any (n lo hi : Int) (w : World) :
    Calls Try.prog 38 #[.int .i64 n, .int .i64 lo, .int .i64 hi] w fun e w' => e = .returned (.bool (inB n lo hi)) ∧ w = w' := by
  by_cases h1 : lo ≤ n
  · by_cases h2 : n ≤ hi
    · go_enter Try.func38, Try.ntmps38
      go_wp2
      go_ret
      exact ⟨ret_bool (by unfold inB; simp [h1, h2]), rfl⟩
    · go_enter Try.func38, Try.ntmps38
      go_wp2
      go_ret
      exact ⟨ret_bool (by unfold inB; simp; omega), rfl⟩
  · go_enter Try.func38, Try.ntmps38
    go_wp2
    go_ret
    exact ⟨ret_bool (by unfold inB; simp; omega), rfl⟩

/-- The short of a number. -/
def shortZ (n : Int) : Int := ((n + 500).tmod 1000 + 1000) % 1000 - 500

theorem tmod_bd (n : Int) : -999 ≤ n.tmod 1000 ∧ n.tmod 1000 ≤ 999 := by
  have h1 := Int.tmod_lt_of_pos n (show (0 : Int) < 1000 by decide)
  have h2 := Int.lt_tmod_of_pos n (show (0 : Int) < 1000 by decide)
  omega

theorem short_any (n : Int) (w : World) (h1 : -1000000 ≤ n) (h2 : n ≤ 1000000) :
    Calls Try.prog 41 #[.int .i64 n] w fun e w' => e = .returned (.int .i64 (shortZ n)) ∧ w = w' := by
  have h3 := tmod_bd (n + 500)
  have h4 : 1 ≤ (n + 500).tmod 1000 + 1000 := by omega
  go_enter Try.func41, Try.ntmps41
  go_wp2
  go_ret
  exact ⟨ret_int (by unfold shortZ; omega), rfl⟩

theorem l4Short_any (n : Int) (w : World) (h1 : -1000000 ≤ n) (h2 : n ≤ 1000000) :
    Calls Try.prog 39 #[.int .i64 n] w fun e w' => e = .returned (.int .i64 (shortZ n)) ∧ w = w' := by
  have h3 := tmod_bd (n + 500)
  have h4 : 1 ≤ (n + 500).tmod 1000 + 1000 := by omega
  go_enter Try.func39, Try.ntmps39
  go_wp2
  go_ret
  exact ⟨ret_int (by unfold shortZ; omega), rfl⟩

def shortP (n : Int) : Int × Bool := if inB n (-1000000) 1000000 then (shortZ n, true) else (0, false)

theorem numberShort_any (n : Int) (w : World) :
    Calls Try.prog 16 #[.int .i64 n] w fun e w' => e = .returned (.tuple #[.int .i64 (shortP n).1, .bool (shortP n).2]) ∧ w = w' := by
  by_cases h : -1000000 ≤ n ∧ n ≤ 1000000
  · have hb : inB n (-1000000) 1000000 = true := inB_iff.2 h
    have e : shortP n = (shortZ n, true) := by unfold shortP; rw [hb]; rfl
    rw [e]
    obtain ⟨h1, h2⟩ := h
    go_enter Try.func16, Try.ntmps16
    go_wp2_with (first | (go_at_call 40; refine (within_any _ _ _ _).mono ?_; rintro e w' ⟨rfl, rfl⟩) | (go_at_call 41; refine (short_any _ _ h1 h2).mono ?_; rintro e w' ⟨rfl, rfl⟩))
    go_ret2
    exact ⟨rfl, rfl⟩
  · have hb : inB n (-1000000) 1000000 = false := inB_no h
    have e : shortP n = (0, false) := by unfold shortP; rw [hb]; rfl
    rw [e]
    clear h
    go_enter Try.func16, Try.ntmps16
    go_wp2_with (go_at_call 40; refine (within_any _ _ _ _).mono ?_; rintro e w' ⟨rfl, rfl⟩)
    go_ret2
    exact ⟨rfl, rfl⟩

theorem sNumberShort_any (n : Int) (w : World) :
    Calls Try.prog 15 #[.int .i64 n] w fun e w' => e = .returned (.tuple #[.int .i64 (shortP n).1, .bool (shortP n).2]) ∧ w = w' := by
  by_cases h : -1000000 ≤ n ∧ n ≤ 1000000
  · have hb : inB n (-1000000) 1000000 = true := inB_iff.2 h
    have e : shortP n = (shortZ n, true) := by unfold shortP; rw [hb]; rfl
    rw [e]
    obtain ⟨h1, h2⟩ := h
    go_enter Try.func15, Try.ntmps15
    go_wp2_with (first | (go_at_call 38; refine (l6In_any _ _ _ _).mono ?_; rintro e w' ⟨rfl, rfl⟩) | (go_at_call 39; refine (l4Short_any _ _ h1 h2).mono ?_; rintro e w' ⟨rfl, rfl⟩))
    go_ret2
    exact ⟨rfl, rfl⟩
  · have hb : inB n (-1000000) 1000000 = false := inB_no h
    have e : shortP n = (0, false) := by unfold shortP; rw [hb]; rfl
    rw [e]
    clear h
    go_enter Try.func15, Try.ntmps15
    go_wp2_with (go_at_call 38; refine (l6In_any _ _ _ _).mono ?_; rintro e w' ⟨rfl, rfl⟩)
    go_ret2
    exact ⟨rfl, rfl⟩
end Go.Proofs.Ytnigldipenpebaa
