/- The library's contract on strconv.Atoi at this program: laid by names. -/
import Derived.Shelf.Strconv.Atoi
import Derived.Lib.AtoiErrMem
import Derived.Test.YtoihkjnfklogpaaDoorName
namespace Go.Proofs.YtoihkjnfklogpaaDoor
open Go.Shelf
open Go.RowKit
def laysA_ren : Go.Shelf.Ren := ⟨fun | 172 => 25 | 244 => 29 | 245 => 30 | 247 => 36 | 279 => 37 | 280 => 38 | 281 => 39 | 282 => 40 | 287 => 48 | 316 => 49 | 171 => 51 | 205 => 50 | 321 => 53 | 322 => 54 | 243 => 55 | 246 => 57 | 283 => 58 | 284 => 59 | 285 => 60 | 286 => 61 | 129 => 63 | 317 => 62 | 318 => 64 | 319 => 65 | 320 => 66 | 337 => 67 | 338 => 68 | n => n, fun | 9 => 9 | 3 => 3 | 75 => 46 | 76 => 47 | 4 => 4 | 5 => 5 | 167 => 56 | 37 => 25 | 0 => 0 | 85 => 57 | 2 => 2 | 168 => 59 | 53 => 65 | 175 => 66 | 46 => 68 | 210 => 70 | 127 => 73 | 145 => 76 | 143 => 74 | 21 => 21 | 171 => 79 | 173 => 82 | 212 => 85 | 51 => 86 | 20 => 20 | 213 => 87 | 232 => 91 | 233 => 92 | 80 => 42 | n => n, fun | 15 => 0 | 16 => 1 | 17 => 2 | 18 => 3 | 19 => 4 | n => n⟩
theorem laysA : Go.Proofs.Lays.n172 Tryd.prog laysA_ren := {
  mixed := by kernel_rfl
  f129 := Tryd.func63.trans (congrArg some (by kernel_rfl))
  f171 := Tryd.func51.trans (congrArg some (by kernel_rfl))
  f172 := Tryd.func25.trans (congrArg some (by kernel_rfl))
  f205 := Tryd.func50.trans (congrArg some (by kernel_rfl))
  f243 := Tryd.func55.trans (congrArg some (by kernel_rfl))
  f244 := Tryd.func29.trans (congrArg some (by kernel_rfl))
  f245 := Tryd.func30.trans (congrArg some (by kernel_rfl))
  f246 := Tryd.func57.trans (congrArg some (by kernel_rfl))
  f247 := Tryd.func36.trans (congrArg some (by kernel_rfl))
  f279 := Tryd.func37.trans (congrArg some (by kernel_rfl))
  f280 := Tryd.func38.trans (congrArg some (by kernel_rfl))
  f281 := Tryd.func39.trans (congrArg some (by kernel_rfl))
  f282 := Tryd.func40.trans (congrArg some (by kernel_rfl))
  f283 := Tryd.func58.trans (congrArg some (by kernel_rfl))
  f284 := Tryd.func59.trans (congrArg some (by kernel_rfl))
  f285 := Tryd.func60.trans (congrArg some (by kernel_rfl))
  f286 := Tryd.func61.trans (congrArg some (by kernel_rfl))
  f287 := Tryd.func48.trans (congrArg some (by kernel_rfl))
  f316 := Tryd.func49.trans (congrArg some (by kernel_rfl))
  f317 := Tryd.func62.trans (congrArg some (by kernel_rfl))
  f318 := Tryd.func64.trans (congrArg some (by kernel_rfl))
  f319 := Tryd.func65.trans (congrArg some (by kernel_rfl))
  f320 := Tryd.func66.trans (congrArg some (by kernel_rfl))
  f321 := Tryd.func53.trans (congrArg some (by kernel_rfl))
  f322 := Tryd.func54.trans (congrArg some (by kernel_rfl))
  f337 := Tryd.func67.trans (congrArg some (by kernel_rfl))
  f338 := Tryd.func68.trans (congrArg some (by kernel_rfl))
  t0 := Tryd.underlying0
  a0 := Tryd.isAgg0
  z0 := Tryd.sizeOf0
  v0 := Tryd.zeroValue0
  t2 := Tryd.underlying2
  a2 := Tryd.isAgg2
  z2 := Tryd.sizeOf2
  v2 := Tryd.zeroValue2
  t3 := Tryd.underlying3
  a3 := Tryd.isAgg3
  z3 := Tryd.sizeOf3
  v3 := Tryd.zeroValue3
  t4 := Tryd.underlying4
  a4 := Tryd.isAgg4
  z4 := Tryd.sizeOf4
  v4 := Tryd.zeroValue4
  t5 := Tryd.underlying5
  a5 := Tryd.isAgg5
  z5 := Tryd.sizeOf5
  v5 := Tryd.zeroValue5
  t9 := Tryd.underlying9
  a9 := Tryd.isAgg9
  z9 := Tryd.sizeOf9
  v9 := Tryd.zeroValue9
  t20 := Tryd.underlying20
  a20 := Tryd.isAgg20
  z20 := Tryd.sizeOf20
  v20 := Tryd.zeroValue20
  t21 := Tryd.underlying21
  a21 := Tryd.isAgg21
  z21 := Tryd.sizeOf21
  v21 := Tryd.zeroValue21
  t37 := Tryd.underlying25
  a37 := Tryd.isAgg25
  z37 := Tryd.sizeOf25
  v37 := Tryd.zeroValue25
  t46 := Tryd.underlying68
  a46 := Tryd.isAgg68
  z46 := Tryd.sizeOf68
  v46 := Tryd.zeroValue68
  t51 := Tryd.underlying86
  a51 := Tryd.isAgg86
  z51 := Tryd.sizeOf86
  v51 := Tryd.zeroValue86
  t53 := Tryd.underlying65
  a53 := Tryd.isAgg65
  z53 := Tryd.sizeOf65
  v53 := Tryd.zeroValue65
  t75 := Tryd.underlying46
  a75 := Tryd.isAgg46
  z75 := Tryd.sizeOf46
  v75 := Tryd.zeroValue46
  t76 := Tryd.underlying47
  a76 := Tryd.isAgg47
  z76 := Tryd.sizeOf47
  v76 := Tryd.zeroValue47
  t85 := Tryd.underlying57
  a85 := Tryd.isAgg57
  z85 := Tryd.sizeOf57
  v85 := Tryd.zeroValue57
  t127 := Tryd.underlying73
  a127 := Tryd.isAgg73
  z127 := Tryd.sizeOf73
  v127 := Tryd.zeroValue73
  t143 := Tryd.underlying74
  a143 := Tryd.isAgg74
  z143 := Tryd.sizeOf74
  v143 := Tryd.zeroValue74
  t145 := Tryd.underlying76
  a145 := Tryd.isAgg76
  z145 := Tryd.sizeOf76
  v145 := Tryd.zeroValue76
  t167 := Tryd.underlying56
  a167 := Tryd.isAgg56
  z167 := Tryd.sizeOf56
  v167 := Tryd.zeroValue56
  t168 := Tryd.underlying59
  a168 := Tryd.isAgg59
  z168 := Tryd.sizeOf59
  v168 := Tryd.zeroValue59
  t171 := Tryd.underlying79
  a171 := Tryd.isAgg79
  z171 := Tryd.sizeOf79
  v171 := Tryd.zeroValue79
  t173 := Tryd.underlying82
  a173 := Tryd.isAgg82
  z173 := Tryd.sizeOf82
  v173 := Tryd.zeroValue82
  t175 := Tryd.underlying66
  a175 := Tryd.isAgg66
  z175 := Tryd.sizeOf66
  v175 := Tryd.zeroValue66
  t210 := Tryd.underlying70
  a210 := Tryd.isAgg70
  z210 := Tryd.sizeOf70
  v210 := Tryd.zeroValue70
  t212 := Tryd.underlying85
  a212 := Tryd.isAgg85
  z212 := Tryd.sizeOf85
  v212 := Tryd.zeroValue85
  t213 := Tryd.underlying87
  a213 := Tryd.isAgg87
  z213 := Tryd.sizeOf87
  t232 := Tryd.underlying91
  a232 := Tryd.isAgg91
  z232 := Tryd.sizeOf91
  v232 := Tryd.zeroValue91
  t233 := Tryd.underlying92
  a233 := Tryd.isAgg92
  z233 := Tryd.sizeOf92
  v233 := Tryd.zeroValue92
  g15 := by kernel_rfl
  g16 := by kernel_rfl
  g17 := by kernel_rfl
  g18 := by kernel_rfl
  g19 := by kernel_rfl }

/-- strconv.Atoi of a short numeral. -/
theorem atoi_any (s : ByteArray) (n : Int) (hl : s.size ≤ 18) (h : Lib.atoi s.data.toList = some n) (w : World) :
    Calls Tryd.prog 25 #[.string s] w fun e w' => e = .returned (.tuple #[.int .i64 n, .nilIface]) ∧ Below w.heap.size w w' :=
  (Any.strconv_Atoi laysA s n hl h w).mono fun e w' ⟨he, t, ht⟩ => ⟨he, by rw [ht]; exact Lib.bytesWorld_below _ _ _⟩

theorem digit_val {b : UInt8} (h : digB b = true) : Lib.digitVal b = some (b.toNat - 48) := by
  unfold digB at h
  simp only [Bool.and_eq_true, decide_eq_true_eq, UInt8.le_iff_toNat_le] at h
  unfold Lib.digitVal
  rw [if_pos]
  exact ⟨h.1, h.2⟩
theorem dec_digs : ∀ (l : List UInt8) (acc : Nat), digsB l = true → Lib.decFrom acc l = some (l.foldl (fun n c => 10 * n + (c.toNat - 48)) acc)
  | [], _, _ => rfl
  | b :: r, acc, h => by
    simp only [digsB, List.all_cons, Bool.and_eq_true] at h
    simp only [Lib.decFrom, digit_val h.1, List.foldl_cons]
    rw [dec_digs r _ h.2, Nat.mul_comm]
theorem atoi_num {l : List UInt8} (h : numB l = true) : Lib.atoi l = some (numV l) ∧ l.length ≤ 4 := by
  unfold numB at h
  simp only [Bool.or_eq_true, decide_eq_true_eq] at h
  rcases h with rfl | h
  · exact ⟨rfl, by decide⟩
  · have hd := h
    unfold digitsB at hd
    simp only [Bool.and_eq_true, decide_eq_true_eq] at hd
    obtain ⟨⟨⟨h1, h3⟩, h4⟩, h5⟩ := hd
    have hdec : Lib.decNat (stripM l) = some (digV (stripM l)) := by
      unfold Lib.decNat
      rw [if_neg, dec_digs _ _ h4]
      · rfl
      · intro hc
        rw [List.isEmpty_iff] at hc
        rw [hc] at h1
        simp at h1
    cases l with
    | nil => simp [stripM] at h1
    | cons b r =>
      by_cases hb : b = 45
      · subst hb
        have hs : stripM (45 :: r) = r := rfl
        rw [hs] at hdec h3
        refine ⟨?_, by simp; omega⟩
        simp only [Lib.atoi, numV, hs, hdec]
        rfl
      · have hs : stripM (b :: r) = b :: r := by
          unfold stripM; split
          · rename_i heq; cases heq; exact absurd rfl hb
          · rfl
        rw [hs] at hdec h3 h4
        have hb43 : b ≠ 43 := by
          rintro rfl
          simp [digsB, digB] at h4
        refine ⟨?_, by simp at h3 ⊢; omega⟩
        have e1 : (b == 45) = false := by simpa using hb
        have e2 : (b == 43) = false := by simpa using hb43
        have e3 : ¬ (some b = some (45 : UInt8)) := by simpa using hb
        simp only [Lib.atoi, numV, hs, hdec, e1, e2, List.head?_cons, if_neg e3]
        rfl

set_option maxRecDepth 100000 in
/-- number, of a numeral. -/
theorem number_any (s : ByteArray) (h : numB s.data.toList = true) (w : World) :
    Calls Tryd.prog 12 #[.string s] w fun e w' => e = .returned (.int .i64 (numV s.data.toList)) ∧ Below w.heap.size w w' := by
  have hn := atoi_num h
  have HA := Lib.hid (fun W => atoi_any s _ (by rw [Lib.size_eq]; omega) hn.1 W)
  clear hn h
  go_enter Tryd.func12, Tryd.ntmps12
  go_wp2_with fail
  refine (HA.out _).mono ?_
  rintro e w1 ⟨rfl, hb1⟩
  go_wp2
  go_ret
  exact ⟨rfl, hb1⟩

set_option maxRecDepth 100000 in
theorem exprNumber_any (s : ByteArray) (w : World) (hs : s.size ≤ 1000000000) :
    Calls Tryd.prog 6 #[.string s] w fun e w' => e = .returned (.tuple #[.int .i64 (numP s).1, .bool (numP s).2]) ∧ Below w.heap.size w w' := by
  have HI := Lib.hid (fun W => isNumeral_any s W hs)
  have HP2 := Lib.hid (numP_snd s)
  cases hn : numB s.data.toList with
  | false =>
    rw [hn] at HI HP2
    have hp1 : (numP s).1 = 0 := by
      unfold numB at hn
      simp only [Bool.or_eq_false_iff, decide_eq_false_iff_not] at hn
      unfold numP
      rw [if_neg hn.1, hn.2]; rfl
    rw [hp1, HP2.out]
    clear hn HP2
    go_enter Tryd.func6, Tryd.ntmps6
    go_wp2_with fail
    refine (HI.out _).mono ?_
    rintro e w1 ⟨rfl, rfl⟩
    go_wp2
    exact bodyPost_ret (v := .tuple #[.int .i64 0, .bool false]) (by simp [results, Tryd.results6, go_sem]) rfl ⟨rfl, Below.refl _ _⟩
  | true =>
    have HN := Lib.hid (fun W => number_any s hn W)
    rw [hn] at HI HP2
    have hp1 : (numP s).1 = numV s.data.toList := by
      unfold numP
      by_cases h0 : s.data.toList = [48]
      · rw [if_pos h0, h0]; rfl
      · unfold numB at hn
        simp only [h0, decide_false, Bool.false_or] at hn
        rw [if_neg h0, hn]; rfl
    rw [hp1, HP2.out]
    generalize numV s.data.toList = z at *
    clear hn HP2 hp1
    go_enter Tryd.func6, Tryd.ntmps6
    go_wp2_with fail
    refine (HI.out _).mono ?_
    rintro e w1 ⟨rfl, rfl⟩
    go_wp2_with fail
    refine (HN.out _).mono ?_
    rintro e w2 ⟨rfl, hb2⟩
    go_wp2
    exact bodyPost_ret (v := .tuple #[.int .i64 z, .bool true]) (by simp [results, Tryd.results6, go_sem]) rfl ⟨rfl, hb2⟩

set_option maxRecDepth 100000 in
theorem sExprNumber_any (s : ByteArray) (w : World) (hs : s.size ≤ 1000000000) :
    Calls Tryd.prog 5 #[.string s] w fun e w' => e = .returned (.tuple #[.int .i64 (numP s).1, .bool (numP s).2]) ∧ w = w' := by
  have HI := Lib.hid (fun W => l2Number_any s W hs)
  generalize (numP s).1 = z at *
  generalize (numP s).2 = b at *
  go_enter Tryd.func5, Tryd.ntmps5
  go_wp2_with fail
  refine (HI.out _).mono ?_
  rintro e w1 ⟨rfl, rfl⟩
  go_wp2
  exact bodyPost_ret (v := .tuple #[.int .i64 z, .bool b]) (by simp [results, Tryd.results5, go_sem]) rfl ⟨rfl, rfl⟩
end Go.Proofs.YtoihkjnfklogpaaDoor
