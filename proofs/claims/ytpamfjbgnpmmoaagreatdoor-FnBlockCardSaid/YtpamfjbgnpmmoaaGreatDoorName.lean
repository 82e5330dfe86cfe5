/- The contracts of the functions that tell names and numerals, of the program and of the reference. -/
import Derived.Test.YtpamfjbgnpmmoaaGreatDoorPlain
import Derived.Test.YtpamfjbgnpmmoaaGreatDoorNum
import Derived.Lib.Strings
import Derived.Lib.IndexBytes
import Derived.Deep.Cut
namespace Go.Proofs.YtpamfjbgnpmmoaaGreatDoor
open Go.RowKit

theorem digB_nat (b : UInt8) : digB b = (decide (48 ≤ (b.toNat : Int)) && decide ((b.toNat : Int) ≤ 57)) := by
  unfold digB
  have e7 : (decide (48 ≤ b)) = decide (48 ≤ (b.toNat : Int)) := by rw [Bool.eq_iff_iff]; simp [UInt8.le_iff_toNat_le]; omega
  have e8 : (decide (b ≤ 57)) = decide ((b.toNat : Int) ≤ 57) := by rw [Bool.eq_iff_iff]; simp [UInt8.le_iff_toNat_le]; omega
  rw [e7, e8]

theorem digB_yes {b : UInt8} (h : digB b = true) : (48 : Int) ≤ (b.toNat : Int) ∧ (b.toNat : Int) ≤ 57 := by rw [digB_nat] at h; simpa using h

theorem digB_no {b : UInt8} (h : digB b = false) : (b.toNat : Int) < 48 ∨ (57 : Int) < (b.toNat : Int) := by rw [digB_nat] at h; simp at h; omega

set_option maxRecDepth 100000 in
set_option maxHeartbeats 400000 in
theorem areDigits_any (s : ByteArray) (w : World) (hs : s.size ≤ 1000000000) :
    Calls Tryz.prog 52 #[.string s] w fun e w' => e = .returned (.bool (digsB s.data.toList)) ∧ w = w' := by
  go_enter Tryz.func52, Tryz.ntmps52
  go_wp2
  go_loop [6] (fun i => ∃ k : Nat, k ≤ s.size ∧ i = .int .i64 k ∧ (∀ j, j < k → (s.data.toList[j]?).any digB = true)) (fun i => s.size - (intOf i).toNat)
  case atStart => exact ⟨0, Nat.zero_le _, rfl, fun j hj => by omega⟩
  case round =>
    obtain ⟨k, hk, rfl, hall⟩ := hrel
    have HA := Lib.hid hall
    clear hall
    by_cases hlt : k < s.size
    · have hb : s.data.toList[k]? = some s[k] := by rw [List.getElem?_eq_getElem (by simpa using hlt)]; rfl
      have HB := Lib.hid hb
      clear hb
      by_cases hat : digB s[k] = true
      · obtain ⟨d1, d2⟩ := digB_yes hat
        have HD := Lib.hid hat
        clear hat
        go_wp2
        go_round
        case rel => exact ⟨k + 1, by omega, by go_num, fun j hj => by
          by_cases h : j = k
          · subst h; rw [HB.out]; simpa using HD.out
          · exact HA.out j (by omega)⟩
        case measure => simp [intOf]; omega
      · have hat' : digB s[k] = false := by simpa using hat
        have hf : digsB s.data.toList = false := all_no HB.out hat'
        have HF := Lib.hid hf
        have hd := digB_no hat'
        clear hat hat' hf
        rcases hd with hd | hd
        · go_wp2
          go_ret
          exact ⟨ret_bool HF.out.symm, rfl⟩
        · go_wp2
          go_ret
          exact ⟨ret_bool HF.out.symm, rfl⟩
    · have hf : digsB s.data.toList = true := all_of fun j hj => HA.out j (by rw [← Lib.size_eq] at hj; omega)
      have HF := Lib.hid hf
      clear hf
      go_wp2
      go_ret
      exact ⟨ret_bool HF.out.symm, rfl⟩

theorem nameB_len {s : ByteArray} (h : ¬ ((1 : Int) ≤ (s.size : Int) ∧ (s.size : Int) ≤ 4)) : nameB s.data.toList = false := by
  rw [Lib.size_eq] at h
  cases hl : s.data.toList with
  | nil => rfl
  | cons c r => rw [hl] at h; simp only [List.length_cons] at h; unfold nameB; simp; omega

theorem le_nat (a b : UInt8) : (a ≤ b) ↔ ((a.toNat : Int) ≤ (b.toNat : Int)) := by rw [UInt8.le_iff_toNat_le]; omega

theorem nameB_cons {s : ByteArray} (h : 1 ≤ s.size) (h4 : s.size ≤ 4) : nameB s.data.toList = (decide ((97 : Int) ≤ (s[0].toNat : Int)) && decide ((s[0].toNat : Int) ≤ 122) && digsB (s.extract 1 s.size).data.toList) := by
  rw [Lib.extract_to_end]
  have hl0 : 0 < s.data.toList.length := by rw [← Lib.size_eq]; omega
  have e : s.data.toList = s[0] :: s.data.toList.drop 1 := by
    rw [show s[0] = s.data.toList[0] from rfl, List.getElem_cons_drop, List.drop_zero]
  have hl : (s.data.toList.drop 1).length ≤ 3 := by rw [List.length_drop, ← Lib.size_eq]; omega
  generalize s.data.toList.drop 1 = r at e hl
  rw [e]
  simp only [nameB]
  have h1 : decide ((97 : UInt8) ≤ s[0]) = decide ((97 : Int) ≤ (s[0].toNat : Int)) := by rw [Bool.eq_iff_iff]; simp [UInt8.le_iff_toNat_le]; omega
  have h2 : decide (s[0] ≤ (122 : UInt8)) = decide ((s[0].toNat : Int) ≤ (122 : Int)) := by rw [Bool.eq_iff_iff]; simp [UInt8.le_iff_toNat_le]; omega
  rw [h1, h2]
  simp [hl]

/-- The text without a sign. -/
def trimMinus (s : ByteArray) : ByteArray := if s.data.toList.head? = some 45 then s.extract 1 s.size else s

theorem trimMinus_list (s : ByteArray) : (trimMinus s).data.toList = stripM s.data.toList := by
  unfold trimMinus
  split
  · rename_i h
    rw [Lib.extract_to_end]
    cases hl : s.data.toList with
    | nil => simp [hl] at h
    | cons c r => rw [hl] at h; simp at h; subst h; rfl
  · rename_i h
    cases hl : s.data.toList with
    | nil => rfl
    | cons c r =>
      rw [hl] at h
      simp at h
      unfold stripM
      split
      · rename_i heq; simp only [List.cons.injEq] at heq; exact absurd heq.1 h
      · rfl

theorem stripM_length (l : List UInt8) : (stripM l).length ≤ l.length := by
  unfold stripM; split
  · simp
  · exact Nat.le_refl _

theorem trimMinus_size (s : ByteArray) : (trimMinus s).size ≤ s.size := by
  rw [Lib.size_eq, Lib.size_eq, trimMinus_list]; exact stripM_length _

theorem head_get (s : ByteArray) (h : 0 < s.size) : s.data.toList.head? = some s[0] := by
  rw [List.head?_eq_getElem?, List.getElem?_eq_getElem (by rw [← Lib.size_eq]; exact h)]; rfl

theorem take1_minus (s : ByteArray) : ((s.extract 0 1).toList == [45]) = decide (s.data.toList.head? = some 45) := by
  rw [Lib.extract_toList]
  cases s.data.toList with
  | nil => simp
  | cons c l => rw [Bool.eq_iff_iff]; simp

set_option maxRecDepth 100000 in
set_option maxHeartbeats 400000 in
theorem trimPrefix_minus (s : ByteArray) (w : World) (_hs : s.size ≤ 1000000000) :
    Calls Tryz.prog 51 #[.string s, .string ⟨#[45]⟩] w fun e w' => e = .returned (.string (trimMinus s)) ∧ w = w' := by
  by_cases h : s.data.toList.head? = some 45
  · have h1 : (1 : Int) ≤ (s.size : Int) := by rw [Lib.size_eq]; cases hl : s.data.toList with
      | nil => simp [hl] at h
      | cons c r => simp only [List.length_cons]; omega
    have e : trimMinus s = s.extract 1 s.size := by unfold trimMinus; rw [if_pos h]
    rw [e]
    have ht : ((s.extract 0 1).toList == [45]) = true := by rw [take1_minus]; simpa using h
    clear h e
    go_enter Tryz.func51, Tryz.ntmps51
    go_wp2
    go_ret
    exact ⟨rfl, rfl⟩
  · have e : trimMinus s = s := by unfold trimMinus; rw [if_neg h]
    rw [e]
    have ht : ((s.extract 0 1).toList == [45]) = false := by rw [take1_minus]; simpa using h
    clear h e
    by_cases h1 : (1 : Int) ≤ (s.size : Int)
    · go_enter Tryz.func51, Tryz.ntmps51
      go_wp2
      go_ret
      exact ⟨rfl, rfl⟩
    · go_enter Tryz.func51, Tryz.ntmps51
      go_wp2
      go_ret
      exact ⟨rfl, rfl⟩

theorem digitsB_len {d : ByteArray} (h : ¬ ((1 : Int) ≤ (d.size : Int) ∧ (d.size : Int) ≤ 3)) : digitsB d.data.toList = false := by
  unfold digitsB; rw [← Lib.size_eq]; simp; omega

theorem ne48 (b : UInt8) : ((b.toNat : Int) != 48) = decide (some b ≠ some 48) := by
  rw [Bool.eq_iff_iff]; simp [← UInt8.toNat_inj]; omega

theorem digitsB_get {d : ByteArray} (h1 : 1 ≤ d.size) (h : d.size ≤ 3) : digitsB d.data.toList = (digsB d.data.toList && ((d[0].toNat : Int) != 48)) := by
  unfold digitsB
  rw [head_get d h1, ne48, ← Lib.size_eq]
  simp [h, h1]

set_option maxRecDepth 100000 in
set_option maxHeartbeats 400000 in
theorem isNumeral_any (s : ByteArray) (w : World) (hs : s.size ≤ 1000000000) :
    Calls Tryz.prog 35 #[.string s] w fun e w' => e = .returned (.bool (numB s.data.toList)) ∧ w = w' := by
  have hz := trimMinus_size s
  have HT := Lib.hid (fun W => trimPrefix_minus s W hs)
  have HC := Lib.hid (fun W => areDigits_any (trimMinus s) W (by omega))
  have hn : numB s.data.toList = (decide (s.data.toList = [48]) || digitsB (trimMinus s).data.toList) := by rw [trimMinus_list]; rfl
  rw [hn]
  clear hn
  generalize trimMinus s = d at *
  by_cases h0 : s.data.toList = [48]
  · have e0 : (s.toList == [48]) = true := by rw [Lib.toList_data]; simpa using h0
    rw [h0]
    clear h0
    go_enter Tryz.func35, Tryz.ntmps35
    go_wp2_with (go_at_call 51; refine (HT.out _).mono ?_; rintro e w' ⟨rfl, rfl⟩)
    go_ret
    exact ⟨ret_bool (by simp), rfl⟩
  · have e0 : (s.toList == [48]) = false := by rw [Lib.toList_data]; simpa using h0
    have e1 : decide (s.data.toList = [48]) = false := by simpa using h0
    rw [e1]
    clear h0 e1
    by_cases hl : (1 : Int) ≤ (d.size : Int) ∧ (d.size : Int) ≤ 3
    · have hb : inB d.size 1 3 = true := inB_iff.2 hl
      have hl1 : 1 ≤ d.size := by omega
      rw [digitsB_get hl1 (by omega)]
      generalize digsB d.data.toList = b at HC ⊢
      clear hl
      cases b
      · go_enter Tryz.func35, Tryz.ntmps35
        go_wp2_with (first | (go_at_call 51; refine (HT.out _).mono ?_; rintro e w' ⟨rfl, rfl⟩) | (go_at_call 26; refine (within_any _ _ _ _).mono ?_; rintro e w' ⟨rfl, rfl⟩) | (go_at_call 52; refine (HC.out _).mono ?_; rintro e w' ⟨rfl, rfl⟩))
        go_ret
        exact ⟨rfl, rfl⟩
      · go_enter Tryz.func35, Tryz.ntmps35
        go_wp2_with (first | (go_at_call 51; refine (HT.out _).mono ?_; rintro e w' ⟨rfl, rfl⟩) | (go_at_call 26; refine (within_any _ _ _ _).mono ?_; rintro e w' ⟨rfl, rfl⟩) | (go_at_call 52; refine (HC.out _).mono ?_; rintro e w' ⟨rfl, rfl⟩))
        go_ret
        exact ⟨ret_bool (by simp), rfl⟩
    · rw [digitsB_len hl]
      have hb : inB d.size 1 3 = false := inB_no hl
      clear hl
      go_enter Tryz.func35, Tryz.ntmps35
      go_wp2_with (first | (go_at_call 51; refine (HT.out _).mono ?_; rintro e w' ⟨rfl, rfl⟩) | (go_at_call 26; refine (within_any _ _ _ _).mono ?_; rintro e w' ⟨rfl, rfl⟩))
      go_ret
      exact ⟨rfl, rfl⟩

/-- What the reference's reader of numerals hands back. -/
def numP (s : ByteArray) : Int × Bool :=
  if s.data.toList = [48] then (0, true) else if digitsB (stripM s.data.toList) then (numV s.data.toList, true) else (0, false)

theorem numP_snd (s : ByteArray) : (numP s).2 = numB s.data.toList := by
  unfold numP numB
  by_cases h : s.data.toList = [48]
  · simp [h]
  · rw [if_neg h]; simp only [h, decide_false, Bool.false_or]
    cases digitsB (stripM s.data.toList) <;> rfl

theorem numP_len {s d : ByteArray} (h0 : ¬ s.data.toList = [48]) (hd : d.data.toList = stripM s.data.toList) (h : ¬ ((1 : Int) ≤ (d.size : Int) ∧ (d.size : Int) ≤ 3)) : numP s = (0, false) := by
  unfold numP; rw [if_neg h0, ← hd, digitsB_len h]; rfl

theorem numP_48 {s d : ByteArray} (h0 : ¬ s.data.toList = [48]) (hd : d.data.toList = stripM s.data.toList) {hp : 0 < d.size} (h : (d[0].toNat : Int) = 48) : numP s = (0, false) := by
  unfold numP
  rw [if_neg h0, ← hd]
  have : digitsB d.data.toList = false := by
    unfold digitsB
    rw [head_get d hp, ← ne48, h]; simp
  rw [this]; rfl

theorem numP_rest {s d : ByteArray} (h0 : ¬ s.data.toList = [48]) (hd : d.data.toList = stripM s.data.toList) (h1 : 1 ≤ d.size) (h3 : d.size ≤ 3) (h : ¬ (d[0].toNat : Int) = 48) {z : Int}
    (hz : numV s.data.toList = z * (digV (stripM s.data.toList) : Int)) :
    (digsB d.data.toList = true → numP s = (z * (digV d.data.toList : Int), true)) ∧ (digsB d.data.toList = false → numP s = (0, false)) := by
  unfold numP
  rw [if_neg h0, ← hd, digitsB_get h1 h3]
  have : ((d[0].toNat : Int) != 48) = true := by simpa using h
  rw [this, hz, ← hd]
  exact ⟨fun e => by rw [e]; rfl, fun e => by rw [e]; rfl⟩

theorem l2_minus (s : ByteArray) : ∃ b : Bool, b = decide (s.data.toList.head? = some 45) := ⟨_, rfl⟩

/-- What the reference's reader of numerals has behind the sign. -/
def NumCut (s : ByteArray) (v4 v5 : Value) : Prop :=
  ∃ (z : Int) (d : ByteArray), v4 = .int .i64 z ∧ v5 = .string d ∧ d.size ≤ s.size ∧ d.data.toList = stripM s.data.toList ∧ -1 ≤ z ∧ z ≤ 1 ∧ numV s.data.toList = z * (digV (stripM s.data.toList) : Int)

theorem numCut_yes {s : ByteArray} (h : s.data.toList.head? = some 45) : NumCut s (.int .i64 (-1)) (.string (s.extract 1 s.size)) := by
  refine ⟨_, _, rfl, rfl, ?_, ?_, by omega, by omega, ?_⟩
  · rw [Lib.size_eq, Lib.extract_to_end, List.length_drop, ← Lib.size_eq]; omega
  · rw [← trimMinus_list]; unfold trimMinus; rw [if_pos h]
  · unfold numV; rw [if_pos h]; omega

theorem numCut_no {s : ByteArray} (h : ¬ s.data.toList.head? = some 45) : NumCut s (.int .i64 1) (.string s) := by
  refine ⟨_, _, rfl, rfl, Nat.le_refl _, ?_, by omega, by omega, ?_⟩
  · rw [← trimMinus_list]; unfold trimMinus; rw [if_neg h]
  · unfold numV; rw [if_neg h]; omega

set_option maxRecDepth 100000 in
set_option maxHeartbeats 1600000 in
theorem l2Number_any (s : ByteArray) (w : World) (hs : s.size ≤ 1000000000) :
    Calls Tryz.prog 46 #[.string s] w fun e w' => e = .returned (.tuple #[.int .i64 (numP s).1, .bool (numP s).2]) ∧ w = w' := by
  obtain ⟨b, hb⟩ := l2_minus s
  have HB := Lib.hid hb
  clear hb
  go_enter Tryz.func46, Tryz.ntmps46
  go_upto_region 3 with (fail)
  go_cut [16] from 9 (fun s16 wx => s16 = .bool b ∧ w = wx)
  case first =>
    by_cases h0 : 0 < s.size
    · have hh := HB.out
      rw [head_get s h0] at hh
      have h45 : b = ((s[0].toNat : Int) == 45) := by
        rw [hh, Bool.eq_iff_iff]; simp [← UInt8.toNat_inj]; omega
      have H45 := Lib.hid h45
      clear h45 hh
      go_wp2
      all_goals (go_meet; exact ⟨by rw [H45.out], rfl⟩)
    · have hh : b = false := by
        have : s.data.toList = [] := List.eq_nil_of_length_eq_zero (by rw [← Lib.size_eq]; omega)
        rw [HB.out, this]; rfl
      have H45 := Lib.hid hh
      clear hh
      go_wp2
      go_meet
      exact ⟨by rw [H45.out], rfl⟩
  case rest =>
    obtain ⟨rfl, rfl⟩ := hcut
    go_upto_if 16 with (fail)
    go_cut [4, 5] from 9 (fun s4 s5 wx => NumCut s s4 s5 ∧ w = wx)
    case first =>
      cases b
      · have hh : ¬ s.data.toList.head? = some 45 := by simpa using HB.out.symm
        have HH := Lib.hid hh
        clear hh HB
        go_wp2
        go_meet
        exact ⟨numCut_no HH.out, rfl⟩
      · have hh : s.data.toList.head? = some 45 := by simpa using HB.out.symm
        have h1 : 1 ≤ s.size := by
          rw [Lib.size_eq]; cases hl : s.data.toList with
          | nil => simp [hl] at hh
          | cons c r => simp
        have HH := Lib.hid hh
        clear hh HB
        go_wp2
        go_meet
        exact ⟨numCut_yes HH.out, rfl⟩
    case rest =>
      obtain ⟨⟨z, d, rfl, rfl, hds, hd, hz1, hz2, hsg⟩, rfl⟩ := hcut
      clear HB
      by_cases h0 : s.data.toList = [48]
      · have e0 : (s.toList == [48]) = true := by rw [Lib.toList_data]; simpa using h0
        have ep : numP s = (0, true) := by unfold numP; rw [if_pos h0]
        have EP := Lib.hid ep
        clear h0 ep hsg
        go_wp2
        go_ret2
        exact ⟨by rw [EP.out]; rfl, rfl⟩
      · have e0 : (s.toList == [48]) = false := by rw [Lib.toList_data]; simpa using h0
        by_cases hl : (1 : Int) ≤ (d.size : Int) ∧ (d.size : Int) ≤ 3
        · have hb : inB d.size 1 3 = true := inB_iff.2 hl
          have hl1 : 1 ≤ d.size := by omega
          have hl2 : d.size ≤ 3 := by omega
          by_cases h48 : (d[0].toNat : Int) = 48
          · have EP := Lib.hid (numP_48 h0 hd h48)
            have h48' : ((d[0].toNat : Int) == 48) = true := by rw [h48]; rfl
            clear h0 h48 hl hsg hd
            go_wp2_with (go_at_call 15; refine (l6In_any _ _ _ _).mono ?_; rintro e w' ⟨rfl, rfl⟩)
            go_ret2
            exact ⟨by rw [EP.out]; rfl, rfl⟩
          · have h48' : ((d[0].toNat : Int) == 48) = false := by simpa using h48
            have HP := Lib.hid (numP_rest h0 hd hl1 hl2 h48 hsg)
            clear h0 h48 hl hsg hd
            go_wp2_with (go_at_call 15; refine (l6In_any _ _ _ _).mono ?_; rintro e w' ⟨rfl, rfl⟩)
            go_loop [6, 7] (fun m i => ∃ k : Nat, k ≤ d.size ∧ i = .int .i64 k ∧ m = .int .i64 (digV (d.data.toList.take k)) ∧ digsB (d.data.toList.take k) = true) (fun _ i => d.size - (intOf i).toNat)
            case atStart => exact ⟨0, Nat.zero_le _, rfl, by simp [digV], by simp [digsB]⟩
            case round =>
              obtain ⟨k, hk, rfl, rfl, hall⟩ := hrel
              have hv : digV (d.data.toList.take k) ≤ 1000 := by
                have h1 := digV_lt _ hall
                have h2 : (d.data.toList.take k).length ≤ 3 := by rw [List.length_take, ← Lib.size_eq]; omega
                have h3 : 10 ^ (d.data.toList.take k).length ≤ 10 ^ 3 := Nat.pow_le_pow_right (by decide) h2
                omega
              have HA := Lib.hid hall
              clear hall
              by_cases hlt : k < d.size
              · have ht : d.data.toList.take (k + 1) = d.data.toList.take k ++ [d[k]] := by
                  rw [List.take_succ_eq_append_getElem (by rw [← Lib.size_eq]; exact hlt)]; rfl
                have HT := Lib.hid ht
                clear ht
                by_cases hat : digB d[k] = true
                · obtain ⟨d1, d2⟩ := digB_yes hat
                  have HD := Lib.hid hat
                  clear hat
                  go_wp2
                  go_round
                  case rel => exact ⟨k + 1, by omega, by go_num, by rw [HT.out, digV_snoc]; go_num, by rw [HT.out]; have := HA.out; unfold digsB at this ⊢; simp [this, HD.out]⟩
                  case measure => simp [intOf]; omega
                · have hat' : digB d[k] = false := by simpa using hat
                  have hf : digsB d.data.toList = false := all_no (k := k) (by rw [List.getElem?_eq_getElem (by rw [← Lib.size_eq]; exact hlt)]; rfl) hat'
                  have HF := Lib.hid (HP.out.2 hf)
                  have hd' := digB_no hat'
                  clear hat hat' hf
                  rcases hd' with hd' | hd'
                  · go_wp2
                    go_ret2
                    exact ⟨by rw [HF.out]; rfl, rfl⟩
                  · go_wp2
                    go_ret2
                    exact ⟨by rw [HF.out]; rfl, rfl⟩
              · have hkd : d.data.toList.take k = d.data.toList := List.take_of_length_le (by rw [← Lib.size_eq]; omega)
                rw [hkd] at HA hv ⊢
                have HF := Lib.hid (HP.out.1 HA.out)
                clear hkd
                have hv2 : -1000 ≤ z * (digV d.data.toList : Int) ∧ z * (digV d.data.toList : Int) ≤ 1000 := by
                  obtain rfl | rfl | rfl : z = -1 ∨ z = 0 ∨ z = 1 := by omega
                  all_goals omega
                obtain ⟨hv3, hv4⟩ := hv2
                go_wp2
                go_ret2
                exact ⟨by rw [HF.out]; rfl, rfl⟩
        · have hb : inB d.size 1 3 = false := inB_no hl
          have EP := Lib.hid (numP_len h0 hd hl)
          clear h0 hl hsg hd
          go_wp2_with (go_at_call 15; refine (l6In_any _ _ _ _).mono ?_; rintro e w' ⟨rfl, rfl⟩)
          go_ret2
          exact ⟨by rw [EP.out]; rfl, rfl⟩


end Go.Proofs.YtpamfjbgnpmmoaaGreatDoor
