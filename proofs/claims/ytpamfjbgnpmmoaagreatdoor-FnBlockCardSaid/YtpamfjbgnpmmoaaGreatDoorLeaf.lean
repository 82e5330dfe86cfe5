/- The contracts of the small functions on bytes and prefixes. -/
import Derived.Test.YtpamfjbgnpmmoaaGreatDoorProg
import Derived.Test.YtpamfjbgnpmmoaaGreatDoorRow
import Derived.WalkKit
import Derived.WalkSpells
import Derived.WalkLawsBesides
import Derived.Lib.Strings
import Derived.Lib.IndexBytes
namespace Go.Proofs.YtpamfjbgnpmmoaaGreatDoor
open Go.RowKit

theorem atomB_nat (b : UInt8) : atomB b = ((decide (97 ≤ (b.toNat : Int)) && decide ((b.toNat : Int) ≤ 122)) || (decide (48 ≤ (b.toNat : Int)) && decide ((b.toNat : Int) ≤ 57)) || decide ((b.toNat : Int) = 43) || decide ((b.toNat : Int) = 45) || decide ((b.toNat : Int) = 42) || decide ((b.toNat : Int) = 62)) := by
  have key : ∀ n : Nat, n < 256 → (b.toNat = n ↔ b = UInt8.ofNat n) := fun n hn => by
    constructor
    · intro h; rw [← h]; simp
    · intro h; rw [h]; simp; omega
  unfold atomB
  have e1 : (b == 43) = decide ((b.toNat : Int) = 43) := by rw [Bool.eq_iff_iff]; simp [← UInt8.toNat_inj]; omega
  have e2 : (b == 45) = decide ((b.toNat : Int) = 45) := by rw [Bool.eq_iff_iff]; simp [← UInt8.toNat_inj]; omega
  have e3 : (b == 42) = decide ((b.toNat : Int) = 42) := by rw [Bool.eq_iff_iff]; simp [← UInt8.toNat_inj]; omega
  have e4 : (b == 62) = decide ((b.toNat : Int) = 62) := by rw [Bool.eq_iff_iff]; simp [← UInt8.toNat_inj]; omega
  have e5 : (decide (97 ≤ b)) = decide (97 ≤ (b.toNat : Int)) := by rw [Bool.eq_iff_iff]; simp [UInt8.le_iff_toNat_le]; omega
  have e6 : (decide (b ≤ 122)) = decide ((b.toNat : Int) ≤ 122) := by rw [Bool.eq_iff_iff]; simp [UInt8.le_iff_toNat_le]; omega
  have e7 : (decide (48 ≤ b)) = decide (48 ≤ (b.toNat : Int)) := by rw [Bool.eq_iff_iff]; simp [UInt8.le_iff_toNat_le]; omega
  have e8 : (decide (b ≤ 57)) = decide ((b.toNat : Int) ≤ 57) := by rw [Bool.eq_iff_iff]; simp [UInt8.le_iff_toNat_le]; omega
  rw [e1, e2, e3, e4, e5, e6, e7, e8]

set_option maxHeartbeats 400000 in
theorem isAtomByte_any (b : UInt8) (w : World) :
    Calls Tryz.prog 48 #[.int .u8 b.toNat] w fun e w' => e = .returned (.bool (atomB b)) ∧ w = w' := by
  rw [atomB_nat]
  go_enter Tryz.func48, Tryz.ntmps48
  go_wp2
  all_goals (go_ret; refine ⟨ret_bool ?_, rfl⟩; first | rfl | (rw [Bool.eq_iff_iff]; simp only [Bool.or_eq_true, Bool.and_eq_true, decide_eq_true_eq, beq_iff_eq]; omega) | (simp; omega))

set_option maxHeartbeats 400000 in
theorem l1Byte_any (b : UInt8) (w : World) :
    Calls Tryz.prog 59 #[.int .u8 b.toNat] w fun e w' => e = .returned (.bool (atomB b)) ∧ w = w' := by
  rw [atomB_nat]
  go_enter Tryz.func59, Tryz.ntmps59
  go_wp2
  all_goals (go_ret; refine ⟨ret_bool ?_, rfl⟩; first | rfl | (rw [Bool.eq_iff_iff]; simp only [Bool.or_eq_true, Bool.and_eq_true, decide_eq_true_eq, beq_iff_eq]; omega) | (simp; omega))

theorem take1_paren (s : ByteArray) : ((s.extract 0 1).toList == [40]) = decide (s.data.toList.head? = some 40) := by
  rw [Lib.extract_toList]
  cases s.data.toList with
  | nil => simp
  | cons c l => rw [Bool.eq_iff_iff]; simp

set_option maxHeartbeats 400000 in
theorem hasPrefix_paren (s : ByteArray) (w : World) :
    Calls Tryz.prog 47 #[.string s, .string ⟨#[40]⟩] w fun e w' => e = .returned (.bool (decide (s.data.toList.head? = some 40))) ∧ w = w' := by
  go_enter Tryz.func47, Tryz.ntmps47
  go_wp2
  · go_ret
    exact ⟨ret_bool (take1_paren s), rfl⟩
  · have h : (s.size : Int) < 1 := by assumption
    have h0 : s.data.toList = [] := List.eq_nil_of_length_eq_zero (by rw [← Lib.size_eq]; omega)
    go_ret
    exact ⟨ret_bool (by simp [h0]), rfl⟩
end Go.Proofs.YtpamfjbgnpmmoaaGreatDoor
