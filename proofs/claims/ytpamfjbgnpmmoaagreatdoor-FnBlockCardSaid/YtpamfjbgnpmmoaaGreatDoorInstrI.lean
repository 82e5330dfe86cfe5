/- Instructions: of the program. -/
import Derived.Test.YtpamfjbgnpmmoaaGreatDoorRepeat
import Derived.Test.YtpamfjbgnpmmoaaGreatDoorAtoi
import Derived.Test.YtpamfjbgnpmmoaaGreatDoorType
namespace Go.Proofs.YtpamfjbgnpmmoaaGreatDoor
open Go.RowKit

theorem eq_no {h : ByteArray} {l : List UInt8} (e : ¬ h.data.toList = l) : (h.toList == l) = false := by rw [Lib.toList_data]; simpa using e
theorem eq_yes {h : ByteArray} {l : List UInt8} (e : h.data.toList = l) : (h.toList == l) = true := by rw [Lib.toList_data]; simpa using e

theorem bytes_ext {a b : ByteArray} (h : a.data.toList = b.data.toList) : a = b := by
  cases a; cases b; simp at h; exact congrArg ByteArray.mk h

set_option maxRecDepth 100000 in
set_option maxHeartbeats 3200000 in
theorem shape_any (h : ByteArray) (n : Nat) (w : World) (hn : n ≤ 1000000) :
    Calls Tryz.prog 32 #[.string h, .int .i64 n] w fun e w' => e = .returned (.string ⟨(shapeI h.data.toList n).toArray⟩) ∧ Below w.heap.size w w' := by
  have HL : Hid (∀ x, shapeI h.data.toList n = x → ByteArray.mk (shapeI h.data.toList n).toArray = ⟨x.toArray⟩) := fun x hx => by rw [hx]
  by_cases e0 : h.data.toList = [99, 111, 110, 115, 116]
  · have b0 := eq_yes e0
    have hr := HL.out [100, 110] (by rw [e0]; rfl)
    rw [hr]
    clear e0 HL hr
    go_enter Tryz.func32, Tryz.ntmps32
    go_wp2
    go_ret
    exact ⟨rfl, Below.refl _ _⟩
  have b0 := eq_no e0
  by_cases e1 : h.data.toList = [109, 111, 118]
  · have b1 := eq_yes e1
    have hr := HL.out [100, 115] (by rw [e1]; rfl)
    rw [hr]
    clear e0 e1 HL hr
    go_enter Tryz.func32, Tryz.ntmps32
    go_wp2
    go_ret
    exact ⟨rfl, Below.refl _ _⟩
  have b1 := eq_no e1
  by_cases e2 : h.data.toList = [111, 112, 101, 110]
  · have b2 := eq_yes e2
    have hr := HL.out [100, 115] (by rw [e2]; rfl)
    rw [hr]
    clear e0 e1 e2 HL hr
    go_enter Tryz.func32, Tryz.ntmps32
    go_wp2
    go_ret
    exact ⟨rfl, Below.refl _ _⟩
  have b2 := eq_no e2
  by_cases e3 : h.data.toList = [97, 100, 100]
  · have b3 := eq_yes e3
    have hr := HL.out [100, 115, 115] (by rw [e3]; rfl)
    rw [hr]
    clear e0 e1 e2 e3 HL hr
    go_enter Tryz.func32, Tryz.ntmps32
    go_wp2
    go_ret
    exact ⟨rfl, Below.refl _ _⟩
  have b3 := eq_no e3
  by_cases e4 : h.data.toList = [115, 117, 98]
  · have b4 := eq_yes e4
    have hr := HL.out [100, 115, 115] (by rw [e4]; rfl)
    rw [hr]
    clear e0 e1 e2 e3 e4 HL hr
    go_enter Tryz.func32, Tryz.ntmps32
    go_wp2
    go_ret
    exact ⟨rfl, Below.refl _ _⟩
  have b4 := eq_no e4
  by_cases e5 : h.data.toList = [109, 117, 108]
  · have b5 := eq_yes e5
    have hr := HL.out [100, 115, 115] (by rw [e5]; rfl)
    rw [hr]
    clear e0 e1 e2 e3 e4 e5 HL hr
    go_enter Tryz.func32, Tryz.ntmps32
    go_wp2
    go_ret
    exact ⟨rfl, Below.refl _ _⟩
  have b5 := eq_no e5
  by_cases e6 : h.data.toList = [110, 101, 119]
  · have b6 := eq_yes e6
    have hr := HL.out (100 :: List.replicate (n - 2) 115) (by rw [e6]; rfl)
    rw [hr]
    have HP := Lib.hid (fun W => repeat_any 115 (n - 2) W (by omega))
    have hm : max (0 : Int) ((n : Int) - 2) = ((n - 2 : Nat) : Int) := by omega
    have HX : Hid (ByteArray.mk #[100] ++ ⟨(List.replicate (n - 2) (115 : UInt8)).toArray⟩ = ⟨(100 :: List.replicate (n - 2) (115 : UInt8)).toArray⟩) := by
      show _ = _
      apply bytes_ext
      rw [ByteArray.data_append]
      simp
    clear e0 e1 e2 e3 e4 e5 e6 HL hr
    have hQ : (⟨(List.replicate (n - 2) (115 : UInt8)).toArray⟩ : ByteArray).size ≤ 1000000 := by show (List.replicate (n - 2) (115 : UInt8)).toArray.size ≤ _; simp; omega
    generalize (⟨(100 :: List.replicate (n - 2) (115 : UInt8)).toArray⟩ : ByteArray) = R at *
    generalize (⟨(List.replicate (n - 2) (115 : UInt8)).toArray⟩ : ByteArray) = Q at *
    go_enter Tryz.func32, Tryz.ntmps32
    rcases Nat.lt_or_ge n 2 with hn2 | hn2
    · rcases (show n = 0 ∨ n = 1 by omega) with rfl | rfl
      all_goals
        go_wp2_with fail
        refine (HP.out _).mono ?_
        rintro e w1 ⟨rfl, hb1⟩
        go_wp2
        go_ret
        exact ⟨congrArg (fun x => Ending.returned (.string x)) HX.out, hb1⟩
    · have hm2 : ((n : Int) - 2) = ((n - 2 : Nat) : Int) := by omega
      go_wp2_with fail
      refine (HP.out _).mono ?_
      rintro e w1 ⟨rfl, hb1⟩
      go_wp2
      go_ret
      exact ⟨congrArg (fun x => Ending.returned (.string x)) HX.out, hb1⟩
  have b6 := eq_no e6
  by_cases e7 : h.data.toList = [103, 101, 116]
  · have b7 := eq_yes e7
    have hr := HL.out [100, 115, 109] (by rw [e7]; rfl)
    rw [hr]
    clear e0 e1 e2 e3 e4 e5 e6 e7 HL hr
    go_enter Tryz.func32, Tryz.ntmps32
    go_wp2
    go_ret
    exact ⟨rfl, Below.refl _ _⟩
  have b7 := eq_no e7
  by_cases e8 : h.data.toList = [108, 97, 98]
  · have b8 := eq_yes e8
    have hr := HL.out [100, 108] (by rw [e8]; rfl)
    rw [hr]
    clear e0 e1 e2 e3 e4 e5 e6 e7 e8 HL hr
    go_enter Tryz.func32, Tryz.ntmps32
    go_wp2
    go_ret
    exact ⟨rfl, Below.refl _ _⟩
  have b8 := eq_no e8
  by_cases e9 : h.data.toList = [112, 97, 99, 107]
  · have b9 := eq_yes e9
    have hr := HL.out [100, 115, 69, 87] (by rw [e9]; rfl)
    rw [hr]
    clear e0 e1 e2 e3 e4 e5 e6 e7 e8 e9 HL hr
    go_enter Tryz.func32, Tryz.ntmps32
    go_wp2
    go_ret
    exact ⟨rfl, Below.refl _ _⟩
  have b9 := eq_no e9
  by_cases e10 : h.data.toList = [122, 101, 114, 111]
  · have b10 := eq_yes e10
    have hr := HL.out [115, 108] (by rw [e10]; rfl)
    rw [hr]
    clear e0 e1 e2 e3 e4 e5 e6 e7 e8 e9 e10 HL hr
    go_enter Tryz.func32, Tryz.ntmps32
    go_wp2
    go_ret
    exact ⟨rfl, Below.refl _ _⟩
  have b10 := eq_no e10
  by_cases e11 : h.data.toList = [106, 117, 109, 112]
  · have b11 := eq_yes e11
    have hr := HL.out [115] (by rw [e11]; rfl)
    rw [hr]
    clear e0 e1 e2 e3 e4 e5 e6 e7 e8 e9 e10 e11 HL hr
    go_enter Tryz.func32, Tryz.ntmps32
    go_wp2
    go_ret
    exact ⟨rfl, Below.refl _ _⟩
  have b11 := eq_no e11
  by_cases e12 : h.data.toList = [104, 97, 108, 116]
  · have b12 := eq_yes e12
    have hr := HL.out [115] (by rw [e12]; rfl)
    rw [hr]
    clear e0 e1 e2 e3 e4 e5 e6 e7 e8 e9 e10 e11 e12 HL hr
    go_enter Tryz.func32, Tryz.ntmps32
    go_wp2
    go_ret
    exact ⟨rfl, Below.refl _ _⟩
  have b12 := eq_no e12
  have hr := HL.out [] (by unfold shapeI; simp [e0, e1, e2, e3, e4, e5, e6, e7, e8, e9, e10, e11, e12])
  rw [hr]
  clear e0 e1 e2 e3 e4 e5 e6 e7 e8 e9 e10 e11 e12 HL hr
  go_enter Tryz.func32, Tryz.ntmps32
  go_wp2
  go_ret
  exact ⟨rfl, Below.refl _ _⟩
end Go.Proofs.YtpamfjbgnpmmoaaGreatDoor
