/- Instructions: of the reference. -/
import Derived.Test.YtpamfjbgnpmmoaaGreatDoorInstrK
import Derived.Test.YtpamfjbgnpmmoaaGreatDoorSTarget
namespace Go.Proofs.YtpamfjbgnpmmoaaGreatDoor
open Go.RowKit

set_option maxRecDepth 100000 in
set_option maxHeartbeats 800000 in
theorem hdS_any (t : Tree) (A : Nat → Prop) (v : Value) (w : World) (hr : Rep w A t v) (hg : t.good = true) :
    Calls Tryz.prog 44 #[v] w fun e w' => e = .returned (.string t.hd) ∧ Below w.heap.size w w' := by
  obtain ⟨s, ps⟩ := t
  obtain ⟨hgl, hge⟩ := Tree.good_parts hg
  simp only [Rep] at hr
  obtain ⟨o, l, c, rfl, hs, hcap⟩ := hr
  obtain rfl := hs.len
  have B0 := boxed0 w (.string s) (.slice o ps.length c) 57
  obtain ⟨x0, y0, hB0, hl0⟩ := boxed B0
  cases ps with
  | nil =>
    have hemp : s.toList.isEmpty = false := by rw [Lib.toList_data]; simpa using hge.1 rfl
    have hemp2 : (s.toList == []) = false := by rw [Lib.toList_data]; simpa using hge.1 rfl
    have HT : Hid ((Tree.node s []).hd = ⟨#[]⟩) := rfl
    clear hge hgl hg hs
    go_enter Tryz.func44, Tryz.ntmps44
    go_wp2
    go_ret
    exact ⟨congrArg (fun x => Ending.returned (.string x)) HT.out.symm, hB0⟩
  | cons p ps =>
    have hse : s.data.toList = [] := Classical.byContradiction fun h => absurd (hge.2 h) (by simp)
    have hemp : s.toList.isEmpty = true := by rw [Lib.toList_data, hse]; rfl
    have hemp2 : (s.toList == []) = true := by rw [Lib.toList_data, hse]; rfl
    have HT : Hid ((Tree.node s (p :: ps)).hd = p.atom) := rfl
    obtain ⟨b, off, rfl, hA, hc⟩ := hs.uncons
    obtain ⟨o0, n0, c0, ca0, cb0, r0⟩ := (RepC.keep (Keeps.below hB0) hA _ _ hc).nth 0 (k := off) rfl rfl
    have hlp : 0 < (p :: ps).length := by simp
    have hlen : (((p :: ps).length : Int) == 0) = false := by simp only [List.length_cons, beq_eq_false_iff_ne, ne_eq]; omega
    clear hge hg hgl hs hc hse
    generalize (p :: ps).length = l at *
    go_enter Tryz.func44, Tryz.ntmps44
    go_wp2
    go_ret
    exact ⟨congrArg (fun x => Ending.returned (.string x)) HT.out.symm, hB0⟩

set_option maxRecDepth 100000 in
set_option maxHeartbeats 3200000 in
theorem l6tShape_any (h : ByteArray) (w : World) :
    Calls Tryz.prog 43 #[.string h] w fun e w' => e = .returned (.string ⟨(shapeS h.data.toList).toArray⟩) ∧ w = w' := by
  have HL : Hid (∀ x, shapeS h.data.toList = x → ByteArray.mk (shapeS h.data.toList).toArray = ⟨x.toArray⟩) := fun x hx => by rw [hx]
  by_cases e0 : h.data.toList = [99, 111, 110, 115, 116]
  · have b0 := eq_yes e0
    have hr := HL.out [114, 110] (by rw [e0]; rfl)
    rw [hr]
    clear e0 HL hr
    go_enter Tryz.func43, Tryz.ntmps43
    go_wp2
    go_ret
    exact ⟨rfl, rfl⟩
  have b0 := eq_no e0
  by_cases e1 : h.data.toList = [109, 111, 118]
  · have b1 := eq_yes e1
    have hr := HL.out [114, 114] (by rw [e1]; rfl)
    rw [hr]
    clear e0 e1 HL hr
    go_enter Tryz.func43, Tryz.ntmps43
    go_wp2
    go_ret
    exact ⟨rfl, rfl⟩
  have b1 := eq_no e1
  by_cases e2 : h.data.toList = [111, 112, 101, 110]
  · have b2 := eq_yes e2
    have hr := HL.out [114, 114] (by rw [e2]; rfl)
    rw [hr]
    clear e0 e1 e2 HL hr
    go_enter Tryz.func43, Tryz.ntmps43
    go_wp2
    go_ret
    exact ⟨rfl, rfl⟩
  have b2 := eq_no e2
  by_cases e3 : h.data.toList = [97, 100, 100]
  · have b3 := eq_yes e3
    have hr := HL.out [114, 114, 114] (by rw [e3]; rfl)
    rw [hr]
    clear e0 e1 e2 e3 HL hr
    go_enter Tryz.func43, Tryz.ntmps43
    go_wp2
    go_ret
    exact ⟨rfl, rfl⟩
  have b3 := eq_no e3
  by_cases e4 : h.data.toList = [115, 117, 98]
  · have b4 := eq_yes e4
    have hr := HL.out [114, 114, 114] (by rw [e4]; rfl)
    rw [hr]
    clear e0 e1 e2 e3 e4 HL hr
    go_enter Tryz.func43, Tryz.ntmps43
    go_wp2
    go_ret
    exact ⟨rfl, rfl⟩
  have b4 := eq_no e4
  by_cases e5 : h.data.toList = [109, 117, 108]
  · have b5 := eq_yes e5
    have hr := HL.out [114, 114, 114] (by rw [e5]; rfl)
    rw [hr]
    clear e0 e1 e2 e3 e4 e5 HL hr
    go_enter Tryz.func43, Tryz.ntmps43
    go_wp2
    go_ret
    exact ⟨rfl, rfl⟩
  have b5 := eq_no e5
  by_cases e6 : h.data.toList = [110, 101, 119]
  · have b6 := eq_yes e6
    have hr := HL.out [114, 42] (by rw [e6]; rfl)
    rw [hr]
    clear e0 e1 e2 e3 e4 e5 e6 HL hr
    go_enter Tryz.func43, Tryz.ntmps43
    go_wp2
    go_ret
    exact ⟨rfl, rfl⟩
  have b6 := eq_no e6
  by_cases e7 : h.data.toList = [103, 101, 116]
  · have b7 := eq_yes e7
    have hr := HL.out [114, 114, 110] (by rw [e7]; rfl)
    rw [hr]
    clear e0 e1 e2 e3 e4 e5 e6 e7 HL hr
    go_enter Tryz.func43, Tryz.ntmps43
    go_wp2
    go_ret
    exact ⟨rfl, rfl⟩
  have b7 := eq_no e7
  by_cases e8 : h.data.toList = [108, 97, 98]
  · have b8 := eq_yes e8
    have hr := HL.out [114, 108] (by rw [e8]; rfl)
    rw [hr]
    clear e0 e1 e2 e3 e4 e5 e6 e7 e8 HL hr
    go_enter Tryz.func43, Tryz.ntmps43
    go_wp2
    go_ret
    exact ⟨rfl, rfl⟩
  have b8 := eq_no e8
  by_cases e9 : h.data.toList = [122, 101, 114, 111]
  · have b9 := eq_yes e9
    have hr := HL.out [114, 108] (by rw [e9]; rfl)
    rw [hr]
    clear e0 e1 e2 e3 e4 e5 e6 e7 e8 e9 HL hr
    go_enter Tryz.func43, Tryz.ntmps43
    go_wp2
    go_ret
    exact ⟨rfl, rfl⟩
  have b9 := eq_no e9
  by_cases e10 : h.data.toList = [112, 97, 99, 107]
  · have b10 := eq_yes e10
    have hr := HL.out [114, 114, 101, 119] (by rw [e10]; rfl)
    rw [hr]
    clear e0 e1 e2 e3 e4 e5 e6 e7 e8 e9 e10 HL hr
    go_enter Tryz.func43, Tryz.ntmps43
    go_wp2
    go_ret
    exact ⟨rfl, rfl⟩
  have b10 := eq_no e10
  by_cases e11 : h.data.toList = [106, 117, 109, 112]
  · have b11 := eq_yes e11
    have hr := HL.out [114] (by rw [e11]; rfl)
    rw [hr]
    clear e0 e1 e2 e3 e4 e5 e6 e7 e8 e9 e10 e11 HL hr
    go_enter Tryz.func43, Tryz.ntmps43
    go_wp2
    go_ret
    exact ⟨rfl, rfl⟩
  have b11 := eq_no e11
  by_cases e12 : h.data.toList = [104, 97, 108, 116]
  · have b12 := eq_yes e12
    have hr := HL.out [114] (by rw [e12]; rfl)
    rw [hr]
    clear e0 e1 e2 e3 e4 e5 e6 e7 e8 e9 e10 e11 e12 HL hr
    go_enter Tryz.func43, Tryz.ntmps43
    go_wp2
    go_ret
    exact ⟨rfl, rfl⟩
  have b12 := eq_no e12
  have hr := HL.out [] (by unfold shapeS; simp [e0, e1, e2, e3, e4, e5, e6, e7, e8, e9, e10, e11, e12])
  rw [hr]
  clear e0 e1 e2 e3 e4 e5 e6 e7 e8 e9 e10 e11 e12 HL hr
  go_enter Tryz.func43, Tryz.ntmps43
  go_wp2
  go_ret
  exact ⟨rfl, rfl⟩


theorem numP_fst {s : ByteArray} (hn : numB s.data.toList = true) : (numP s).1 = numV s.data.toList := by
  unfold numP
  by_cases h0 : s.data.toList = [48]
  · rw [if_pos h0, h0]; rfl
  · unfold numB at hn
    simp only [h0, decide_false, Bool.false_or] at hn
    rw [if_neg h0, hn]; rfl

set_option maxRecDepth 100000 in
set_option maxHeartbeats 3200000 in
theorem l6tPart_any (c : UInt8) (t : Tree) (A : Nat → Prop) (v : Value) (w : World) (hr : Rep w A t v) (hg : t.good = true) (hz : t.sz ≤ 24000) (ha : t.atom.size ≤ 1000000000) :
    Calls Tryz.prog 45 #[v, .int .u8 c.toNat] w fun e w' => e = .returned (.bool (kindS c t)) ∧ Below w.heap.size w w' := by
  have HHD := Lib.hid (fun v W hr => hdS_any t A v W hr hg)
  have HTG := Lib.hid (fun v W hr => l6tType_any unkI false (by simp) _ t false A v W (Nat.le_refl _) hr (by omega) hg (by simp))
  have hr0 := hr
  obtain ⟨s, ps⟩ := t
  simp only [Rep] at hr
  obtain ⟨o, l, n, rfl, hs, hcap⟩ := hr
  have HREG := Lib.hid (fun W => l6tReg_any s o l n W ha)
  have HNUM := Lib.hid (fun W => l2Number_any s W ha)
  have HLAB := Lib.hid (fun W => l6tLabel_any s W ha)
  have hge := Lib.hid (regN_ge s)
  have HNP := Lib.hid (numP_snd s)
  have hB0 : Below w.heap.size w (w.alloc (.cells #[.string s, .slice o l n] 57)) := (Below.refl _ _).alloc (Nat.le_refl _) _
  have HB0 := Lib.hid hB0
  have HR := Lib.hid (Rep.keep (Keeps.alloc _ w (.cells #[.string s, .slice o l n] 57)) _ _ hr0)
  have HRK : Hid (∀ W, Below (w.alloc (.cells #[.string s, .slice o l n] 57)).heap.size (w.alloc (.cells #[.string s, .slice o l n] 57)) W → Rep W A (.node s ps) (.agg #[.string s, .slice o l n])) := fun W h => Rep.keep (Keeps.below h) _ _ HR.out
  obtain ⟨z0, z1⟩ := two_new w (.string s) (.slice o l n) 57
  have HA : Hid ((Tree.node s ps).atom = s) := rfl
  have hn0 : (0 : Int) ≤ (c.toNat : Int) := Int.natCast_nonneg _
  clear hs hr0 hB0 hg hz ha
  generalize hT : Tree.node s ps = T at *
  by_cases c0 : c = 114 ∨ c = 42
  · have HK : Hid (kindS c T = regB s.data.toList) := by show _ = _; unfold kindS; rw [if_pos c0, HA.out]
    have hd := hge.out
    generalize regN s = r at *
    rcases c0 with rfl | rfl
    all_goals
      rw [HK.out]
      clear HK HA hge
      generalize regB s.data.toList = bb at *
      subst hd
      go_enter Tryz.func45, Tryz.ntmps45
      go_wp2_with fail
      refine (HREG.out _).mono ?_
      rintro e w1 ⟨rfl, hb1⟩
      go_wp2
      go_ret
      exact ⟨rfl, HB0.out.trans (hb1.mono HB0.out.size)⟩
  have c1 : ¬ c = 114 := fun h => c0 (.inl h)
  have c2 : ¬ c = 42 := fun h => c0 (.inr h)
  by_cases c110 : c = 110
  · have HK : Hid (kindS c T = numB s.data.toList) := by show _ = _; unfold kindS; rw [if_neg c0, if_pos c110, HA.out]
    have hp2 := HNP.out
    subst c110
    rw [HK.out]
    rw [hp2] at HNUM
    clear HK HA HNP hp2 c0 c1 c2
    generalize numB s.data.toList = bb at *
    generalize (numP s).1 = z at *
    go_enter Tryz.func45, Tryz.ntmps45
    go_wp2_with fail
    refine (HNUM.out _).mono ?_
    rintro e w1 ⟨rfl, rfl⟩
    go_wp2
    go_ret
    exact ⟨rfl, HB0.out⟩
  by_cases c108 : c = 108
  · have HK : Hid (kindS c T = labelB s.data.toList) := by show _ = _; unfold kindS; rw [if_neg c0, if_neg c110, if_pos c108, HA.out]
    subst c108
    rw [HK.out]
    clear HK HA HNP c0 c1 c2
    generalize labelB s.data.toList = bb at *
    go_enter Tryz.func45, Tryz.ntmps45
    go_wp2_with fail
    refine (HLAB.out _).mono ?_
    rintro e w1 ⟨rfl, rfl⟩
    go_wp2
    go_ret
    exact ⟨rfl, HB0.out⟩
  by_cases c101 : c = 101
  · have HK : Hid (kindS c T = (decide (T.hd.data.toList = [101]) && T.target unkI false false)) := by show _ = _; unfold kindS; rw [if_neg c0, if_neg c110, if_neg c108, if_pos c101]
    subst c101
    rw [HK.out]
    clear HK HA HNP c0 c1 c2
    generalize T.target unkI false false = bb at *
    by_cases hh : T.hd.data.toList = [101]
    · have hb := eq_yes hh
      rw [decide_eq_true hh, Bool.true_and]
      clear hh
      generalize T.hd = h at *
      go_enter Tryz.func45, Tryz.ntmps45
      go_wp2_with fail
      refine (HHD.out _ _ HR.out).mono ?_
      rintro e w1 ⟨rfl, hb1⟩
      have hrq1 := HRK.out _ hb1
      obtain ⟨hc1, hf1⟩ := bcell hb1; have hz1 := hb1.size; simp only [World.size_alloc] at hc1 hf1 hz1
      go_wp2_with fail
      refine (HTG.out _ _ hrq1).mono ?_
      rintro e w2 ⟨rfl, hb2⟩
      go_wp2
      go_ret
      exact ⟨rfl, (HB0.out.trans (hb1.mono HB0.out.size)).trans (hb2.mono (Nat.le_trans HB0.out.size hb1.size))⟩
    · have hb := eq_no hh
      rw [decide_eq_false hh, Bool.false_and]
      clear hh
      generalize T.hd = h at *
      go_enter Tryz.func45, Tryz.ntmps45
      go_wp2_with fail
      refine (HHD.out _ _ HR.out).mono ?_
      rintro e w1 ⟨rfl, hb1⟩
      go_wp2
      go_ret
      exact ⟨rfl, HB0.out.trans (hb1.mono HB0.out.size)⟩
  · have HK : Hid (kindS c T = T.target unkI false false) := by show _ = _; unfold kindS; rw [if_neg c0, if_neg c110, if_neg c108, if_neg c101]
    rw [HK.out]
    have e1 : ((c.toNat : Int) == 114) = false := u8_no (n := 114) c1
    have e2 : ((c.toNat : Int) == 42) = false := u8_no (n := 42) c2
    have e3 : ((c.toNat : Int) == 110) = false := u8_no (n := 110) c110
    have e4 : ((c.toNat : Int) == 108) = false := u8_no (n := 108) c108
    have e5 : ((c.toNat : Int) == 101) = false := u8_no (n := 101) c101
    clear HK HA HNP c0 c1 c2 c110 c108 c101
    generalize T.target unkI false false = bb at *
    go_enter Tryz.func45, Tryz.ntmps45
    go_wp2_with fail
    refine (HTG.out _ _ HR.out).mono ?_
    rintro e w2 ⟨rfl, hb2⟩
    go_wp2
    go_ret
    exact ⟨rfl, HB0.out.trans (hb2.mono HB0.out.size)⟩
end Go.Proofs.YtpamfjbgnpmmoaaGreatDoor
