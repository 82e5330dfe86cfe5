/- The contracts of the small functions on numbers. -/
import Derived.Test.YtpamfjbgnpmmoaaGreatDoorRow
import Derived.Test.YtpamfjbgnpmmoaaGreatDoorProg
import Derived.WalkKit
import Derived.WalkSpells
import Derived.WalkLawsBesides
import Derived.Lib.Hide
namespace Go.Proofs.YtpamfjbgnpmmoaaGreatDoor
open Go.RowKit

/-- Is a number in a range? -/
def inB (n lo hi : Int) : Bool := decide (lo ≤ n) && decide (n ≤ hi)

theorem inB_iff {n lo hi : Int} : inB n lo hi = true ↔ lo ≤ n ∧ n ≤ hi := by unfold inB; simp

theorem inB_no {n lo hi : Int} (h : ¬ (lo ≤ n ∧ n ≤ hi)) : inB n lo hi = false := by
  cases e : inB n lo hi with
  | false => rfl
  | true => exact absurd (inB_iff.1 e) h

theorem within_any (n lo hi : Int) (w : World) :
    Calls Tryz.prog 26 #[.int .i64 n, .int .i64 lo, .int .i64 hi] w fun e w' => e = .returned (.bool (inB n lo hi)) ∧ w = w' := by
  by_cases h1 : lo ≤ n
  · by_cases h2 : n ≤ hi
    · go_enter Tryz.func26, Tryz.ntmps26
      go_wp2
      go_ret
      exact ⟨ret_bool (by unfold inB; simp [h1, h2]), rfl⟩
    · go_enter Tryz.func26, Tryz.ntmps26
      go_wp2
      go_ret
      exact ⟨ret_bool (by unfold inB; simp; omega), rfl⟩
  · go_enter Tryz.func26, Tryz.ntmps26
    go_wp2
    go_ret
    exact ⟨ret_bool (by unfold inB; simp; omega), rfl⟩

theorem l6In_any (n lo hi : Int) (w : World) :
    Calls Tryz.prog 15 #[.int .i64 n, .int .i64 lo, .int .i64 hi] w fun e w' => e = .returned (.bool (inB n lo hi)) ∧ w = w' := by
  by_cases h1 : lo ≤ n
  · by_cases h2 : n ≤ hi
    · go_enter Tryz.func15, Tryz.ntmps15
      go_wp2
      go_ret
      exact ⟨ret_bool (by unfold inB; simp [h1, h2]), rfl⟩
    · go_enter Tryz.func15, Tryz.ntmps15
      go_wp2
      go_ret
      exact ⟨ret_bool (by unfold inB; simp; omega), rfl⟩
  · go_enter Tryz.func15, Tryz.ntmps15
    go_wp2
    go_ret
    exact ⟨ret_bool (by unfold inB; simp; omega), rfl⟩

/-- The short of a number. -/
def shortZ (n : Int) : Int := ((n + 500).tmod 1000 + 1000) % 1000 - 500

theorem tmod_bd (n : Int) : -999 ≤ n.tmod 1000 ∧ n.tmod 1000 ≤ 999 := by
  have h1 := Int.tmod_lt_of_pos n (show (0 : Int) < 1000 by decide)
  have h2 := Int.lt_tmod_of_pos n (show (0 : Int) < 1000 by decide)
  omega



def shortP (n : Int) : Int × Bool := if inB n (-1000000) 1000000 then (shortZ n, true) else (0, false)


end Go.Proofs.YtpamfjbgnpmmoaaGreatDoor
