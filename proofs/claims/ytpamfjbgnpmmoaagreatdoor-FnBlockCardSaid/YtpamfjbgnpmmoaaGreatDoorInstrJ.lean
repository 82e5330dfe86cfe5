/- Labels and registers: of the program and of the reference. -/
import Derived.Test.YtpamfjbgnpmmoaaGreatDoorInstrI
namespace Go.Proofs.YtpamfjbgnpmmoaaGreatDoor
open Go.RowKit

def labAt (i : Nat) (c : UInt8) : Bool := azB c || (decide (0 < i) && digB c)
theorem labAt_nat (i : Nat) (c : UInt8) : labAt i c = ((decide ((97 : Int) ≤ (c.toNat : Int)) && decide ((c.toNat : Int) ≤ 122)) || (decide (0 < i) && (decide ((48 : Int) ≤ (c.toNat : Int)) && decide ((c.toNat : Int) ≤ 57)))) := by
  have h1 : decide ((97 : UInt8) ≤ c) = decide ((97 : Int) ≤ (c.toNat : Int)) := by rw [Bool.eq_iff_iff]; simp [UInt8.le_iff_toNat_le]; omega
  have h2 : decide (c ≤ (122 : UInt8)) = decide ((c.toNat : Int) ≤ (122 : Int)) := by rw [Bool.eq_iff_iff]; simp [UInt8.le_iff_toNat_le]; omega
  have h3 : decide ((48 : UInt8) ≤ c) = decide ((48 : Int) ≤ (c.toNat : Int)) := by rw [Bool.eq_iff_iff]; simp [UInt8.le_iff_toNat_le]; omega
  have h4 : decide (c ≤ (57 : UInt8)) = decide ((c.toNat : Int) ≤ (57 : Int)) := by rw [Bool.eq_iff_iff]; simp [UInt8.le_iff_toNat_le]; omega
  unfold labAt azB digB
  rw [h1, h2, h3, h4]
theorem lab_iff (l : List UInt8) : labelB l = true ↔ l ≠ [] ∧ ∀ (i : Nat) c, l[i]? = some c → labAt i c = true := by
  cases l with
  | nil => simp [labelB]
  | cons c r =>
    simp only [labelB, Bool.and_eq_true, List.all_eq_true]
    constructor
    · rintro ⟨h1, h2⟩
      refine ⟨by simp, fun i d hd => ?_⟩
      cases i with
      | zero => simp at hd; subst hd; unfold labAt; rw [h1]; rfl
      | succ i =>
        simp at hd
        have := h2 d (List.mem_of_getElem? hd)
        unfold labAt
        simpa using this
    · rintro ⟨-, h⟩
      refine ⟨?_, fun d hd => ?_⟩
      · have := h 0 c rfl
        unfold labAt at this
        simpa using this
      · obtain ⟨i, hi⟩ := List.mem_iff_getElem?.1 hd
        have := h (i + 1) d (by simpa using hi)
        unfold labAt at this
        simpa using this
theorem lab_no {l : List UInt8} {k : Nat} {c : UInt8} (h : l[k]? = some c) (hc : labAt k c = false) : labelB l = false := by
  cases e : labelB l with
  | false => rfl
  | true => have := ((lab_iff l).1 e).2 k c h; rw [hc] at this; cases this
theorem lab_all {l : List UInt8} (h : ∀ j, j < l.length → (l[j]?).any (labAt j) = true) : labelB l = !l.isEmpty := by
  cases l with
  | nil => rfl
  | cons c r =>
    have : labelB (c :: r) = true := (lab_iff _).2 ⟨by simp, fun i d hd => by
      have h1 := h i (List.getElem?_eq_some_iff.1 hd).1
      rw [hd] at h1
      simpa using h1⟩
    rw [this]; rfl
theorem lab_class (k : Nat) (n : Int) : (97 ≤ n ∧ n ≤ 122) ∨ (n < 97 ∧ 0 < k ∧ 48 ≤ n ∧ n ≤ 57) ∨ (n < 97 ∧ k = 0) ∨ (n < 97 ∧ 0 < k ∧ n < 48) ∨ (n < 97 ∧ 0 < k ∧ 57 < n) ∨ (122 < n ∧ k = 0) ∨ (122 < n ∧ 0 < k) := by omega

set_option maxRecDepth 100000 in
set_option maxHeartbeats 1600000 in
theorem isLabel_any (s : ByteArray) (w : World) (hs : s.size ≤ 1000000000) :
    Calls Tryz.prog 25 #[.string s] w fun e w' => e = .returned (.bool (labelB s.data.toList)) ∧ w = w' := by
  go_enter Tryz.func25, Tryz.ntmps25
  go_wp2
  go_loop [7] (fun i => ∃ k : Nat, k ≤ s.size ∧ i = .int .i64 k ∧ (∀ j, j < k → (s.data.toList[j]?).any (labAt j) = true)) (fun i => s.size - (intOf i).toNat)
  case atStart => exact ⟨0, Nat.zero_le _, rfl, fun j hj => by omega⟩
  case round =>
    obtain ⟨k, hk, rfl, hall⟩ := hrel
    have HA := Lib.hid hall
    clear hall
    by_cases hlt : k < s.size
    · have hb : s.data.toList[k]? = some s[k] := by rw [List.getElem?_eq_getElem (by simpa using hlt)]; rfl
      have HB := Lib.hid hb
      have HN := Lib.hid (fun h => lab_no (l := s.data.toList) (k := k) hb h)
      have HY := Lib.hid (labAt_nat k s[k])
      have hn0 : (0 : Int) ≤ (s[k].toNat : Int) := Int.natCast_nonneg _
      clear hb
      rcases lab_class k (s[k].toNat : Int) with ⟨d1, d2⟩ | ⟨d1, d2, d3, d4⟩ | ⟨d1, rfl⟩ | ⟨d1, d2, d3⟩ | ⟨d1, d2, d3⟩ | ⟨d1, rfl⟩ | ⟨d1, d2⟩
      case inl | inr.inl =>
        have HD : Hid (labAt k s[k] = true) := by show _ = _; rw [HY.out]; simp; omega
        try have d5 : (0 : Int) < (k : Int) := by omega
        try have d6 : decide ((0 : Int) < (k : Int)) = false := decide_eq_false (by omega)
        try have e1 : decide ((s[k].toNat : Int) ≤ 57) = false := decide_eq_false (by omega)
        try have e2 : decide ((s[k].toNat : Int) ≤ 57) = true := decide_eq_true (by omega)
        try have e3 : decide ((s[k].toNat : Int) ≤ 122) = false := decide_eq_false (by omega)
        try have e4 : decide ((s[k].toNat : Int) ≤ 122) = true := decide_eq_true (by omega)
        go_wp2
        go_round
        case rel => exact ⟨k + 1, by omega, by go_num, fun j hj => by
          by_cases h : j = k
          · subst h; rw [HB.out]; simpa using HD.out
          · exact HA.out j (by omega)⟩
        case measure => simp [intOf]; omega
      all_goals
        have HF : Hid (labelB s.data.toList = false) := HN.out (by rw [HY.out]; simp; omega)
        try have d5 : (0 : Int) < (k : Int) := by omega
        try have d6 : decide ((0 : Int) < (k : Int)) = false := decide_eq_false (by omega)
        try have e1 : decide ((s[k].toNat : Int) ≤ 57) = false := decide_eq_false (by omega)
        try have e2 : decide ((s[k].toNat : Int) ≤ 57) = true := decide_eq_true (by omega)
        try have e3 : decide ((s[k].toNat : Int) ≤ 122) = false := decide_eq_false (by omega)
        try have e4 : decide ((s[k].toNat : Int) ≤ 122) = true := decide_eq_true (by omega)
        go_wp2
        all_goals first
          | (go_ret; exact ⟨ret_bool HF.out.symm, rfl⟩)
          | (exfalso; omega)
          | (exfalso; clear HA HB HN HY HF; simp_all; done)
          | (exfalso; clear HA HB HN HY HF; simp_all; omega)
    · have HF := Lib.hid (lab_all (l := s.data.toList) (fun j hj => HA.out j (by rw [← Lib.size_eq] at hj; omega)))
      rw [← Lib.toList_data] at HF
      clear HA
      go_wp2
      go_ret
      exact ⟨ret_bool (by rw [← Lib.toList_data]; exact HF.out.symm), rfl⟩

set_option maxRecDepth 100000 in
set_option maxHeartbeats 1600000 in
theorem l6tLabel_any (s : ByteArray) (w : World) (hs : s.size ≤ 1000000000) :
    Calls Tryz.prog 14 #[.string s] w fun e w' => e = .returned (.bool (labelB s.data.toList)) ∧ w = w' := by
  go_enter Tryz.func14, Tryz.ntmps14
  go_wp2
  go_loop [3] (fun i => ∃ k : Nat, k ≤ s.size ∧ i = .int .i64 k ∧ (∀ j, j < k → (s.data.toList[j]?).any (labAt j) = true)) (fun i => s.size - (intOf i).toNat)
  case atStart => exact ⟨0, Nat.zero_le _, rfl, fun j hj => by omega⟩
  case round =>
    obtain ⟨k, hk, rfl, hall⟩ := hrel
    have HA := Lib.hid hall
    clear hall
    by_cases hlt : k < s.size
    · have hb : s.data.toList[k]? = some s[k] := by rw [List.getElem?_eq_getElem (by simpa using hlt)]; rfl
      have HB := Lib.hid hb
      have HN := Lib.hid (fun h => lab_no (l := s.data.toList) (k := k) hb h)
      have HY := Lib.hid (labAt_nat k s[k])
      have hn0 : (0 : Int) ≤ (s[k].toNat : Int) := Int.natCast_nonneg _
      clear hb
      rcases lab_class k (s[k].toNat : Int) with ⟨d1, d2⟩ | ⟨d1, d2, d3, d4⟩ | ⟨d1, rfl⟩ | ⟨d1, d2, d3⟩ | ⟨d1, d2, d3⟩ | ⟨d1, rfl⟩ | ⟨d1, d2⟩
      case inl | inr.inl =>
        have HD : Hid (labAt k s[k] = true) := by show _ = _; rw [HY.out]; simp; omega
        try have d5 : (0 : Int) < (k : Int) := by omega
        try have d6 : decide ((0 : Int) < (k : Int)) = false := decide_eq_false (by omega)
        try have e1 : decide ((s[k].toNat : Int) ≤ 57) = false := decide_eq_false (by omega)
        try have e2 : decide ((s[k].toNat : Int) ≤ 57) = true := decide_eq_true (by omega)
        try have e3 : decide ((s[k].toNat : Int) ≤ 122) = false := decide_eq_false (by omega)
        try have e4 : decide ((s[k].toNat : Int) ≤ 122) = true := decide_eq_true (by omega)
        go_wp2
        go_round
        case rel => exact ⟨k + 1, by omega, by go_num, fun j hj => by
          by_cases h : j = k
          · subst h; rw [HB.out]; simpa using HD.out
          · exact HA.out j (by omega)⟩
        case measure => simp [intOf]; omega
      all_goals
        have HF : Hid (labelB s.data.toList = false) := HN.out (by rw [HY.out]; simp; omega)
        try have d5 : (0 : Int) < (k : Int) := by omega
        try have d6 : decide ((0 : Int) < (k : Int)) = false := decide_eq_false (by omega)
        try have e1 : decide ((s[k].toNat : Int) ≤ 57) = false := decide_eq_false (by omega)
        try have e2 : decide ((s[k].toNat : Int) ≤ 57) = true := decide_eq_true (by omega)
        try have e3 : decide ((s[k].toNat : Int) ≤ 122) = false := decide_eq_false (by omega)
        try have e4 : decide ((s[k].toNat : Int) ≤ 122) = true := decide_eq_true (by omega)
        go_wp2
        all_goals first
          | (go_ret; exact ⟨ret_bool HF.out.symm, rfl⟩)
          | (exfalso; omega)
          | (exfalso; clear HA HB HN HY HF; simp_all; done)
          | (exfalso; clear HA HB HN HY HF; simp_all; omega)
    · have HF := Lib.hid (lab_all (l := s.data.toList) (fun j hj => HA.out j (by rw [← Lib.size_eq] at hj; omega)))
      rw [← Lib.toList_data] at HF
      clear HA
      go_wp2
      go_ret
      exact ⟨ret_bool (by rw [← Lib.toList_data]; exact HF.out.symm), rfl⟩

set_option maxRecDepth 100000 in
set_option maxHeartbeats 800000 in
theorem isReg_any (s : ByteArray) (w : World) (hs : s.size ≤ 1000000000) :
    Calls Tryz.prog 34 #[.string s] w fun e w' => e = .returned (.bool (regB s.data.toList)) ∧ Below w.heap.size w w' := by
  have HI := Lib.hid (fun W => isNumeral_any s W hs)
  cases hn : numB s.data.toList with
  | false =>
    have HR : Hid (regB s.data.toList = false) := by show _ = _; unfold regB; rw [hn]; rfl
    rw [hn] at HI
    clear hn
    go_enter Tryz.func34, Tryz.ntmps34
    go_wp2_with fail
    refine (HI.out _).mono ?_
    rintro e w1 ⟨rfl, rfl⟩
    go_wp2
    go_ret
    exact ⟨ret_bool HR.out.symm, Below.refl _ _⟩
  | true =>
    have HN := Lib.hid (fun W => number_any s hn W)
    have HR : Hid (regB s.data.toList = inB (numV s.data.toList) 0 39) := by show _ = _; unfold regB inB; rw [hn]; rfl
    have HW := Lib.hid (fun W => within_any (numV s.data.toList) 0 39 W)
    rw [hn] at HI
    clear hn
    generalize inB (numV s.data.toList) 0 39 = b at *
    generalize numV s.data.toList = z at *
    go_enter Tryz.func34, Tryz.ntmps34
    go_wp2_with fail
    refine (HI.out _).mono ?_
    rintro e w1 ⟨rfl, rfl⟩
    go_wp2_with fail
    refine (HN.out _).mono ?_
    rintro e w2 ⟨rfl, hb2⟩
    go_wp2_with fail
    refine (HW.out _).mono ?_
    rintro e w3 ⟨rfl, rfl⟩
    go_wp2
    go_ret
    exact ⟨ret_bool HR.out.symm, hb2⟩

/-- The number of a register, or -1. -/
def regN (s : ByteArray) : Int := if regB s.data.toList then numV s.data.toList else -1
theorem regN_ge (s : ByteArray) : decide (0 ≤ regN s) = regB s.data.toList := by
  unfold regN
  cases h : regB s.data.toList with
  | false => rfl
  | true =>
    unfold regB at h
    simp only [Bool.and_eq_true, decide_eq_true_eq] at h
    simpa using h.2.1
set_option maxRecDepth 100000 in
set_option maxHeartbeats 800000 in
theorem l6tReg_any (s : ByteArray) (o : Option Addr) (l c : Nat) (w : World) (hs : s.size ≤ 1000000000) :
    Calls Tryz.prog 60 #[.agg #[.string s, .slice o l c]] w fun e w' => e = .returned (.int .i64 (regN s)) ∧ Below w.heap.size w w' := by
  have HI := Lib.hid (fun W => l2Number_any s W hs)
  have HP2 := numP_snd s
  rw [HP2] at HI
  have hB0 : Below w.heap.size w (w.alloc (.cells #[.string s, .slice o l c] 57)) := (Below.refl _ _).alloc (Nat.le_refl _) _
  cases hn : numB s.data.toList with
  | false =>
    have HR : Hid (regN s = -1) := by show _ = _; unfold regN regB; rw [hn]; rfl
    rw [hn] at HI
    clear hn HP2
    generalize (numP s).1 = z at *
    go_enter Tryz.func60, Tryz.ntmps60
    go_wp2_with fail
    refine (HI.out _).mono ?_
    rintro e w1 ⟨rfl, rfl⟩
    go_wp2
    go_ret
    exact ⟨congrArg (fun x => Ending.returned (.int .i64 x)) HR.out.symm, hB0⟩
  | true =>
    have hp1 : (numP s).1 = numV s.data.toList := by
      unfold numP
      by_cases h0 : s.data.toList = [48]
      · rw [if_pos h0, h0]; rfl
      · unfold numB at hn
        simp only [h0, decide_false, Bool.false_or] at hn
        rw [if_neg h0, hn]; rfl
    have HR : Hid (regN s = if inB (numV s.data.toList) 0 39 then numV s.data.toList else -1) := by show _ = _; unfold regN regB inB; rw [hn]; rfl
    have HW := Lib.hid (fun W => l6In_any (numV s.data.toList) 0 39 W)
    rw [hn, hp1] at HI
    clear hn HP2 hp1
    generalize numV s.data.toList = z at *
    cases hb : inB z 0 39 with
    | false =>
      rw [hb] at HW HR
      go_enter Tryz.func60, Tryz.ntmps60
      go_wp2_with fail
      refine (HI.out _).mono ?_
      rintro e w1 ⟨rfl, rfl⟩
      go_wp2_with fail
      refine (HW.out _).mono ?_
      rintro e w3 ⟨rfl, rfl⟩
      go_wp2
      go_ret
      exact ⟨congrArg (fun x => Ending.returned (.int .i64 x)) HR.out.symm, hB0⟩
    | true =>
      rw [hb] at HW HR
      go_enter Tryz.func60, Tryz.ntmps60
      go_wp2_with fail
      refine (HI.out _).mono ?_
      rintro e w1 ⟨rfl, rfl⟩
      go_wp2_with fail
      refine (HW.out _).mono ?_
      rintro e w3 ⟨rfl, rfl⟩
      go_wp2
      go_ret
      exact ⟨congrArg (fun x => Ending.returned (.int .i64 x)) HR.out.symm, hB0⟩
end Go.Proofs.YtpamfjbgnpmmoaaGreatDoor
