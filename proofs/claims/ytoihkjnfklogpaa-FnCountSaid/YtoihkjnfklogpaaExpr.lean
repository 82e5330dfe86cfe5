/- Expressions: the program's reader. -/
import Derived.Test.YtoihkjnfklogpaaKids
import Derived.Test.YtoihkjnfklogpaaName
import Derived.Test.YtoihkjnfklogpaaOrder
import Derived.Test.YtoihkjnfklogpaaMake
import Derived.Test.YtoihkjnfklogpaaPlainF
import Derived.Deep.QuietTactic
namespace Go.Proofs.Ytoihkjnfklogpaa
open Go.RowKit

theorem atom_leI {t : Tree} (h : t.good = true) : t.atom.size ≤ t.text.length := by
  obtain ⟨a, ps⟩ := t
  cases ps with
  | nil => rw [text_leaf, size_data]; exact Nat.le_refl _
  | cons p ps =>
    have hge := (Tree.good_parts h).2
    have h0 : a.data.toList = [] := Classical.byContradiction fun h => absurd (hge.2 h) (by simp)
    rw [size_data]
    show a.data.toList.length ≤ _
    rw [h0]
    exact Nat.zero_le _

set_option maxRecDepth 100000 in
set_option maxHeartbeats 1600000 in
theorem isBare_any (t : Tree) (A : Nat → Prop) (v : Value) (w : World) (hr : Rep w A t v) (hsz : t.atom.size ≤ 1000000000) :
    Calls Try.prog 103 #[v] w fun e w' => e = .returned (.bool (t.parts.isEmpty && bareB t.atom.data.toList)) ∧ Below w.heap.size w w' := by
  obtain ⟨s, ps⟩ := t
  simp only [Rep] at hr
  obtain ⟨o, l, c, rfl, hs, hcap⟩ := hr
  obtain rfl := hs.len
  have B0 := boxed0 w (.string s) (.slice o ps.length c) 46
  cases ps with
  | nil =>
    have HT : Hid ((List.isEmpty (Tree.parts (.node s [])) && bareB (Tree.atom (.node s [])).data.toList) = (nameB s.data.toList || numB s.data.toList)) := by show _ = _; rfl
    have HM := Lib.hid (fun W => isName_any s W hsz)
    have HN := Lib.hid (fun W => isNumeral_any s W hsz)
    clear hs hcap
    generalize nameB s.data.toList = b1 at *
    generalize numB s.data.toList = b2 at *
    cases b1
    · go_enter Try.func103, Try.ntmps103
      go_wp2_with fail
      refine (isAtom_any _ _ _ _ _).mono ?_
      rintro e w1 ⟨rfl, hb1⟩
      have B1 := Below.next B0 hb1; obtain ⟨x1, y1, hB1, hl1⟩ := boxed B1; clear hb1
      go_wp2_with fail
      refine (HM.out _).mono ?_
      rintro e w2 ⟨rfl, rfl⟩
      go_wp2_with fail
      refine (HN.out _).mono ?_
      rintro e w3 ⟨rfl, rfl⟩
      go_wp2
      go_ret
      exact ⟨ret_bool (by rw [HT.out]; rfl), hB1⟩
    · go_enter Try.func103, Try.ntmps103
      go_wp2_with fail
      refine (isAtom_any _ _ _ _ _).mono ?_
      rintro e w1 ⟨rfl, hb1⟩
      have B1 := Below.next B0 hb1; obtain ⟨x1, y1, hB1, hl1⟩ := boxed B1; clear hb1
      go_wp2_with fail
      refine (HM.out _).mono ?_
      rintro e w2 ⟨rfl, rfl⟩
      go_wp2
      go_ret
      exact ⟨ret_bool (by rw [HT.out]; rfl), hB1⟩
  | cons p ps =>
    have hlen : (((p :: ps).length : Int) == 0) = false := by simp only [List.length_cons, beq_eq_false_iff_ne, ne_eq]; omega
    generalize (p :: ps).length = l at *
    go_enter Try.func103, Try.ntmps103
    go_wp2_with fail
    refine (isAtom_any _ _ _ _ _).mono ?_
    rintro e w1 ⟨rfl, hb1⟩
    have B1 := Below.next B0 hb1; obtain ⟨x1, y1, hB1, hl1⟩ := boxed B1; clear hb1
    go_wp2
    go_ret
    exact ⟨ret_bool (by simp [Tree.parts]), hB1⟩

set_option maxRecDepth 100000 in
set_option maxHeartbeats 6400000 in
theorem isExpr_any (n : Nat) : ∀ (t : Tree) (A : Nat → Prop) (v : Value) (w : World), t.sz ≤ n → Rep w A t v → t.sz ≤ 1000000000 → t.text.length ≤ 1000000000 → t.good = true →
    Calls Try.prog 89 #[v] w fun e w' => e = .returned (.bool t.isExpr) ∧ Below w.heap.size w w' := by
  induction n with
  | zero => intro t A v w h; cases t; simp [Tree.sz] at h
  | succ n ih =>
    intro t A v w hn hr hb htx hgood
    have hln : t.parts.length ≤ 1000000000 := by cases t with | node a ps => have := Tree.length_le_szL ps; simp only [Tree.sz, Tree.parts] at *; omega
    have HHD := Lib.hid (fun v w hr => head_any t A v w hr hln)
    have HKI := Lib.hid (fun v w hr => kids_any t A v w hr hln)
    have HBA := Lib.hid (fun v w hr => isBare_any t A v w hr (Nat.le_trans (atom_leI hgood) htx))
    obtain ⟨s, ps⟩ := t
    have hr' := hr
    simp only [Rep] at hr
    obtain ⟨o, l, c, rfl, hs, hcap⟩ := hr
    obtain rfl := hs.len
    obtain ⟨hgl, hge⟩ := Tree.good_parts hgood
    have B0 := boxed0 w (.string s) (.slice o ps.length c) 46
    have HRW : Hid (∀ W, Below w.heap.size w W → Rep W A (.node s ps) (.agg #[.string s, .slice o ps.length c])) := fun W h => Rep.keep (Keeps.below h) _ _ hr'
    clear hr'
    cases ps with
    | nil =>
      have HT : Hid ((Tree.node s []).isExpr = (List.isEmpty (Tree.parts (.node s [])) && bareB (Tree.atom (.node s [])).data.toList)) := by show _ = _; simp only [Tree.isExpr, Tree.parts, Tree.atom]; rfl
      generalize (Tree.node s []).isExpr = ans at *
      generalize (List.isEmpty (Tree.parts (.node s [])) && bareB (Tree.atom (.node s [])).data.toList) = ans2 at *
      clear ih hge hgl hs HHD HKI hgood htx hn hb
      go_enter Try.func89, Try.ntmps89
      go_wp2_with fail
      refine (isAtom_any _ _ _ _ _).mono ?_
      rintro e w1 ⟨rfl, hb1⟩
      have B1 := Below.next B0 hb1; obtain ⟨x1, y1, hB1, hl1⟩ := boxed B1; clear hb1
      go_wp2_with fail
      refine (HBA.out _ _ (HRW.out _ hB1)).mono ?_
      rintro e w2 ⟨rfl, hb2⟩
      have B2 := Below.next B1 hb2; obtain ⟨x2, y2, hB2, hl2⟩ := boxed B2; clear hb2
      go_wp2
      go_ret
      exact ⟨ret_bool HT.out.symm, hB2⟩
    | cons p ps =>
      have hlen : (((p :: ps).length : Int) == 0) = false := by simp only [List.length_cons, beq_eq_false_iff_ne, ne_eq]; omega
      obtain ⟨b, off, rfl, hA, hc⟩ := hs.uncons
      have hpp : ∀ (i : Nat) (q : Tree), (p :: ps)[i]? = some q → q.sz ≤ n ∧ q.sz ≤ 1000000000 ∧ q.text.length ≤ 1000000000 ∧ q.good = true := fun i q hq => by
        have h1 := Tree.sz_part _ _ _ hq
        have h2 := text_part_le (a := s) (List.mem_of_getElem? hq)
        simp only [Tree.sz] at hn hb
        exact ⟨by omega, by omega, by omega, Tree.good_part _ _ _ hq hgl⟩
      have hll := Tree.length_le_szL (p :: ps)
      simp only [Tree.sz] at hb
      have HT : Hid ((Tree.node s (p :: ps)).isExpr = (decide (kidAt p.atom.data.toList (ps.length + 1) ≠ 0) && (headOk (p :: ps) (kidAt p.atom.data.toList (ps.length + 1)) && Tree.exprFrom (kidAt p.atom.data.toList (ps.length + 1) - 1) ps))) := by show _ = _; simp only [Tree.isExpr]
      have hklI := kidsOf_length p.atom.data.toList (ps.length + 1)
      have hkgI := kidsOf_get p.atom.data.toList (ps.length + 1)
      have hknI := kidsOf_none p.atom.data.toList (ps.length + 1)
      simp only [List.length_cons] at hcap hll B0 hlen
      have HKI' : Hid (∀ v w, Rep w A (.node s (p :: ps)) v → Calls Try.prog 64 #[v] w (KidsR (kidsOf p.atom.data.toList (ps.length + 1)) w)) := HKI.out
      have HHD' : Hid (∀ v w, Rep w A (.node s (p :: ps)) v → Calls Try.prog 32 #[v] w fun e w' => e = .returned (.string p.atom) ∧ Below w.heap.size w w') := HHD.out
      have HRW' : Hid (∀ W, Below w.heap.size w W → Rep W A (.node s (p :: ps)) (.agg #[.string s, .slice (some ⟨b, off, none⟩) (ps.length + 1) c])) := HRW.out
      have HRC : Hid (∀ W, Below w.heap.size w W → RepC W A (p :: ps) b off) := fun W h => RepC.keep (Keeps.below h) hA _ _ hc
      have HQ := Lib.hid (fun (i : Nat) (q : Tree) (hq : (p :: ps)[i]? = some q) v w' hr => ih q A v w' (hpp i q hq).1 hr (hpp i q hq).2.1 (hpp i q hq).2.2.1 (hpp i q hq).2.2.2)
      have HPP := Lib.hid hpp
      have hcs := kidAt_cases p.atom.data.toList (ps.length + 1)
      clear ih hpp hs hge hgl hgood htx HHD HKI HRW HBA hc hn
      by_cases hk0 : kidAt p.atom.data.toList (ps.length + 1) = 0
      · have HT2 : Hid ((Tree.node s (p :: ps)).isExpr = false) := by show _ = _; rw [HT.out, hk0]; rfl
        have hkn' := hknI hk0
        rw [hkn'] at HKI'
        clear hknI hkn' hklI hkgI hk0 hcs HT
        go_enter Try.func89, Try.ntmps89
        go_wp2_with fail
        refine (isAtom_any _ _ _ _ _).mono ?_
        rintro e w1 ⟨rfl, hb1⟩
        have B1 := Below.next B0 hb1; obtain ⟨x1, y1, hB1, hl1⟩ := boxed B1; clear hb1
        go_wp2_with fail
        refine (HKI'.out _ _ (HRW'.out _ hB1)).mono ?_
        rintro e w2 ⟨hb2, hks⟩
        have B2 := Below.next B1 hb2; obtain ⟨x2, y2, hB2, hl2⟩ := boxed B2; clear hb2
        rcases hks with ⟨-, rfl⟩ | ⟨h, -⟩
        · go_wp2
          go_ret
          exact ⟨ret_bool HT2.out.symm, hB2⟩
        · exact absurd rfl h
      · have hkl := hklI hk0
        have hkg := hkgI hk0
        have HT2 : Hid ((Tree.node s (p :: ps)).isExpr = (headOk (p :: ps) (kidAt p.atom.data.toList (ps.length + 1)) && Tree.exprFrom (kidAt p.atom.data.toList (ps.length + 1) - 1) ps)) := by show _ = _; rw [HT.out]; simp [hk0]
        have hkle := kidAt_le p.atom.data.toList (ps.length + 1)
        generalize kidsOf p.atom.data.toList (ps.length + 1) = ks at *
        generalize kidAt p.atom.data.toList (ps.length + 1) = k at *
        have HKG := Lib.hid hkg
        have HCS := Lib.hid hcs
        have hlk : 0 < ks.length := by
          rcases hcs with h | ⟨h, h1, h2, -⟩ | ⟨h, h1, -⟩ | ⟨h, h1, -⟩ <;> omega
        have hlk2 : ks.length ≤ ps.length + 1 := by omega
        have hlkb : ((ks.length : Int) == 0) = false := by simp only [beq_eq_false_iff_ne, ne_eq]; omega
        have HKL := Lib.hid hkl
        clear hkg hcs hkl hknI hklI hkgI HT
        go_enter Try.func89, Try.ntmps89
        go_wp2_with fail
        refine (isAtom_any _ _ _ _ _).mono ?_
        rintro e w1 ⟨rfl, hb1⟩
        have B1 := Below.next B0 hb1; obtain ⟨x1, y1, hB1, hl1⟩ := boxed B1; clear hb1
        go_wp2_with fail
        refine (HKI'.out _ _ (HRW'.out _ hB1)).mono ?_
        rintro e w2 ⟨hb2, hks⟩
        have B2 := Below.next B1 hb2; obtain ⟨x2, y2, hB2, hl2⟩ := boxed B2; clear hb2
        rcases hks with ⟨h, rfl⟩ | ⟨-, bk, ck, rfl, hbk, hck, hkc⟩
        · exact absurd h (by intro h; rw [h] at hlk; simp at hlk)
        have hbk2 : bk < w2.heap.size := by
          obtain ⟨q, hq⟩ : ∃ q, ks[0]? = some q := ⟨ks[0]'hlk, by simp⟩
          exact lt_of_cell (hkc 0 q hq)
        have HKC := Lib.hid hkc
        clear hkc hbk
        go_wp2
        go_loopw [19] (fun i wr => ∃ m : Nat, m ≤ ks.length ∧ i = .int .i64 m ∧ Hid (∀ (j : Nat) (q : Tree), k ≤ j → j < k + m → (p :: ps)[j]? = some q → q.isExpr = true) ∧ Below w2.heap.size w2 wr) (fun i _ => ks.length - (intOf i).toNat)
        case atStart => exact ⟨0, Nat.zero_le _, rfl, fun j q h1 h2 => by omega, Below.refl _ _⟩
        case round =>
          obtain ⟨m, hm, rfl, HK, hbr⟩ := hrel
          have B3 := Below.next B2 hbr
          obtain ⟨x3, y3, hB3, hl3⟩ := boxed B3
          by_cases hlt : m < ks.length
          · obtain ⟨i, HI, hi⟩ : ∃ i, Hid (i = k + m) ∧ i < ps.length + 1 := ⟨k + m, rfl, by have := HKL.out; omega⟩
            have hcell : wr.cell? ⟨bk, m, none⟩ = some (.int .i64 (i : Int)) := by
              have h1 := HKC.out m (k + m) (HKG.out m (by have := HKL.out; omega))
              rw [HI.out]
              exact (hbr.cell hbk2).trans h1
            obtain ⟨q, hq⟩ : ∃ q, (p :: ps)[i]? = some q := ⟨(p :: ps)[i]'(by simpa using hi), by simp⟩
            obtain ⟨o', n', c', hx, hy, hrp⟩ := (HRC.out _ hB3).nth i (p := q) (k := off + i * 2) hq rfl
            have HCl := Lib.hid (HQ.out i q hq _ wr hrp)
            have HN := Lib.hid hq
            clear hq
            go_wp2_with fail
            refine HCl.out.mono ?_
            rintro e wq ⟨rfl, hbq⟩
            have hbr2 := hbr.trans (hbq.mono hbr.size)
            cases hqt : q.isExpr
            · have HF : Hid (Tree.exprFrom (k - 1) ps = false) := by
                show _ = _
                have h1 := HI.out
                have h2 := HN.out
                rw [show i = (i - 1) + 1 from by omega] at h2
                exact exprFrom_no (i := i - 1) (by omega) (by simpa using h2) hqt
              clear hqt HCl
              go_wp2
              go_ret
              exact ⟨ret_bool (by rw [HT2.out, HF.out, Bool.and_false]), (boxed (Below.next B2 hbr2)).2.2.1⟩
            · have HZ := Lib.hid hqt
              clear hqt HCl
              go_wp2
              go_roundw
              case rel => exact ⟨m + 1, by omega, by go_num, fun j q' h1 h2 hq' => by
                have h3 := HI.out
                by_cases h : j = i
                · subst h; rw [HN.out] at hq'; cases hq'; exact HZ.out
                · exact HK.out j q' h1 (by omega) hq', hbr2⟩
              case measure => simp [intOf]; omega
          · have HF : Hid (Tree.exprFrom (k - 1) ps = true) := by
              show _ = _
              have h1 := HKL.out
              refine exprFrom_all ps (k - 1) fun i q h2 hq => HK.out (i + 1) q (by omega) ?_ (by simpa using hq)
              have := (List.getElem?_eq_some_iff.1 hq).1
              omega
            clear HK HQ HKC HKG HKL hbk2
            have HT3 : Hid ((Tree.node s (p :: ps)).isExpr = headOk (p :: ps) k) := by show _ = _; rw [HT2.out, HF.out, Bool.and_true]
            clear HT2 HF
            rcases HCS.out with h | ⟨h, -, -, h7, h8⟩ | ⟨h, hl, h7⟩ | ⟨h, hl, h8⟩
            · exact absurd h hk0
            · have e7 : (p.atom.toList == [108, 101, 116]) = false := by rw [Lib.toList_data]; simpa using h7
              have e8 : (p.atom.toList == [102, 117, 110]) = false := by rw [Lib.toList_data]; simpa using h8
              have HT4 : Hid ((Tree.node s (p :: ps)).isExpr = true) := by show _ = _; rw [HT3.out, h]; rfl
              clear HT3 HCS h7 h8 h HPP
              go_wp2_with fail
              refine (HHD'.out _ _ (HRW'.out _ hB3)).mono ?_
              rintro e w4 ⟨rfl, hb4⟩
              have B4 := Below.next B3 hb4; obtain ⟨x4, y4, hB4, hl4⟩ := boxed B4; clear hb4
              go_wp2
              go_ret
              exact ⟨ret_bool HT4.out.symm, hB4⟩
            · have e7 : (p.atom.toList == [108, 101, 116]) = true := by rw [Lib.toList_data]; simpa using h7
              have hlq : 4 ≤ ps.length + 1 := by omega
              obtain ⟨q1, hq1⟩ : ∃ q, (p :: ps)[1]? = some q := ⟨(p :: ps)[1]'(by simp only [List.length_cons]; omega), by simp⟩
              have hz1 : q1.atom.size ≤ 1000000000 := Nat.le_trans (atom_leI (HPP.out 1 q1 hq1).2.2.2) (HPP.out 1 q1 hq1).2.2.1
              have HM := Lib.hid (fun W => isName_any q1.atom W hz1)
              have HT4 : Hid ((Tree.node s (p :: ps)).isExpr = nameB q1.atom.data.toList) := by
                show _ = _
                rw [HT3.out, h]
                simp only [headOk, nth, List.getD_eq_getElem?_getD, hq1]
                rfl
              have HQ1 := Lib.hid hq1
              clear HT3 HCS h7 h HPP hq1 hl hz1
              go_wp2_with fail
              refine (HHD'.out _ _ (HRW'.out _ hB3)).mono ?_
              rintro e w4 ⟨rfl, hb4⟩
              have B4 := Below.next B3 hb4; obtain ⟨x4, y4, hB4, hl4⟩ := boxed B4; clear hb4
              obtain ⟨o1, n1, c1, ca1, cb1, -⟩ := (HRC.out _ hB4).nth 1 (p := q1) (k := off + 2) HQ1.out rfl
              go_wp2_with fail
              refine (HM.out _).mono ?_
              rintro e w5 ⟨rfl, rfl⟩
              go_wp2
              go_ret
              exact ⟨ret_bool HT4.out.symm, hB4⟩
            · have e7 : (p.atom.toList == [108, 101, 116]) = false := by rw [Lib.toList_data, h8]; rfl
              have e8 : (p.atom.toList == [102, 117, 110]) = true := by rw [Lib.toList_data]; simpa using h8
              have hlq : 6 ≤ ps.length + 1 := by omega
              have hget : ∀ i, i < 6 → ∃ q, (p :: ps)[i]? = some q := fun i hi => ⟨(p :: ps)[i]'(by simp only [List.length_cons]; omega), by simp⟩
              obtain ⟨q1, hq1⟩ := hget 1 (by omega)
              obtain ⟨q2, hq2⟩ := hget 2 (by omega)
              obtain ⟨q3, hq3⟩ := hget 3 (by omega)
              obtain ⟨q4, hq4⟩ := hget 4 (by omega)
              have hz1 : q1.atom.size ≤ 1000000000 := Nat.le_trans (atom_leI (HPP.out 1 q1 hq1).2.2.2) (HPP.out 1 q1 hq1).2.2.1
              have hz2 : q2.atom.size ≤ 1000000000 := Nat.le_trans (atom_leI (HPP.out 2 q2 hq2).2.2.2) (HPP.out 2 q2 hq2).2.2.1
              have HM := Lib.hid (fun W => isName_any q1.atom W hz1)
              have HM2 := Lib.hid (fun W => isName_any q2.atom W hz2)
              have HD3 := Lib.hid (fun v W hr => typed_any q3 A v W hr (HPP.out 3 q3 hq3).2.1)
              have HD4 := Lib.hid (fun v W hr => typed_any q4 A v W hr (HPP.out 4 q4 hq4).2.1)
              have HT4 : Hid ((Tree.node s (p :: ps)).isExpr = (nameB q1.atom.data.toList && nameB q2.atom.data.toList && !(q1.atom.toList == q2.atom.toList) && q3.typed && q4.typed)) := by
                show _ = _
                rw [HT3.out, h]
                simp only [headOk, nth, List.getD_eq_getElem?_getD, hq1, hq2, hq3, hq4]
                rfl
              have HRD : Hid (∀ W, Below w.heap.size w W → (W.cell? ⟨b, off + 2, none⟩ = some (.string q1.atom) ∧ W.cell? ⟨b, off + 4, none⟩ = some (.string q2.atom)) ∧ (∃ o n c, W.cell? ⟨b, off + 6, none⟩ = some (.string q3.atom) ∧ W.cell? ⟨b, off + 6 + 1, none⟩ = some (.slice o n c) ∧ Rep W A q3 (.agg #[.string q3.atom, .slice o n c])) ∧ (∃ o n c, W.cell? ⟨b, off + 8, none⟩ = some (.string q4.atom) ∧ W.cell? ⟨b, off + 8 + 1, none⟩ = some (.slice o n c) ∧ Rep W A q4 (.agg #[.string q4.atom, .slice o n c]))) := by
                intro W h
                have hR := HRC.out W h
                obtain ⟨o1, n1, c1, ca1, cb1, -⟩ := hR.nth 1 (p := q1) (k := off + 2) hq1 rfl
                obtain ⟨o2, n2, c2, ca2, cb2, -⟩ := hR.nth 2 (p := q2) (k := off + 4) hq2 rfl
                obtain ⟨o3, n3, c3, ca3, cb3, r3⟩ := hR.nth 3 (p := q3) (k := off + 6) hq3 rfl
                obtain ⟨o4, n4, c4, ca4, cb4, r4⟩ := hR.nth 4 (p := q4) (k := off + 8) hq4 rfl
                exact ⟨⟨ca1, ca2⟩, ⟨o3, n3, c3, ca3, cb3, r3⟩, o4, n4, c4, ca4, cb4, r4⟩
              clear HT3 HCS h8 h HPP hq1 hq2 hq3 hq4 hl hz1 hz2 hget HRC
              generalize nameB q1.atom.data.toList = b1 at *
              generalize nameB q2.atom.data.toList = b2 at *
              generalize q3.typed = b3 at *
              generalize q4.typed = b4 at *
              generalize q1.atom = a1 at *
              generalize q2.atom = a2 at *
              generalize hb12 : (a1.toList == a2.toList) = b12 at *
              go_wp2_with fail
              refine (HHD'.out _ _ (HRW'.out _ hB3)).mono ?_
              rintro e w4 ⟨rfl, hb4⟩
              have B4 := Below.next B3 hb4; obtain ⟨x4, y4, hB4, hl4⟩ := boxed B4; clear hb4
              obtain ⟨⟨ca1, ca2⟩, -, -⟩ := HRD.out _ hB4
              go_wp2_with fail
              go_region
              go_wp2_with fail
              refine (HM.out _).mono ?_
              rintro e w5 ⟨rfl, rfl⟩
              have hB4d : Below w.heap.size w w4.drew := hB4.drew
              obtain ⟨-, ⟨o3, n3, c3, ca3, cb3, r3⟩, -⟩ := HRD.out _ hB4d
              cases b1
              · go_wp2
                go_ret
                exact ⟨ret_bool (by rw [HT4.out]; simp), hB4d⟩
              go_wp2_with fail
              refine (HM2.out _).mono ?_
              rintro e w6 ⟨rfl, rfl⟩
              cases b2
              · go_wp2
                go_ret
                exact ⟨ret_bool (by rw [HT4.out]; simp), hB4d⟩
              cases b12
              rotate_left
              · go_wp2
                go_ret
                exact ⟨ret_bool (by rw [HT4.out]; simp), hB4d⟩
              go_wp2_with fail
              refine (HD3.out _ _ r3).mono ?_
              rintro e w7 ⟨rfl, hb7⟩
              have B4d := Below.drew B4
              have B7 := Below.next B4d hb7
              obtain ⟨x7, y7, hB7, hl7⟩ := boxed B7
              obtain ⟨-, -, ⟨o4, n4, c4, ca4, cb4, r4⟩⟩ := HRD.out _ hB7
              cases b3
              · go_wp2
                go_ret
                exact ⟨ret_bool (by rw [HT4.out]; simp), hB7⟩
              go_wp2_with fail
              refine (HD4.out _ _ r4).mono ?_
              rintro e w8 ⟨rfl, hb8⟩
              have B8 := Below.next B7 hb8
              obtain ⟨x8, y8, hB8, hl8⟩ := boxed B8
              go_wp2
              go_ret
              exact ⟨ret_bool (by rw [HT4.out]; simp), hB8⟩

set_option maxRecDepth 100000 in
set_option maxHeartbeats 1600000 in
theorem isExpression_any (t : Tree) (A : Nat → Prop) (v : Value) (w : World) (hr : Rep w A t v) (hb : t.sz ≤ 1000000000) (htx : t.text.length ≤ 1000000000) (hgood : t.good = true) :
    Calls Try.prog 61 #[v] w fun e w' => e = .returned (.bool (decide (t.size ≤ 120) && (decide (t.depth ≤ 60) && decide (t.text.length ≤ 12000)) && t.isExpr)) ∧ Below w.heap.size w w' := by
  have HZ := Lib.hid (fun v w hr => size_any _ t A v w (Nat.le_refl _) hr hb)
  have HF := Lib.hid (fun v w hr => fits_any t A v w hr hb htx)
  have HE := Lib.hid (fun v w hr => isExpr_any _ t A v w (Nat.le_refl _) hr hb htx hgood)
  have hsz := Tree.size_le_sz t
  generalize (decide (t.depth ≤ 60) && decide (t.text.length ≤ 12000)) = b1 at *
  generalize t.isExpr = b2 at *
  generalize t.size = z at *
  have hr' := hr
  obtain ⟨s, ps⟩ := t
  simp only [Rep] at hr
  obtain ⟨o, l, c, rfl, hs, hcap⟩ := hr
  have B0 := boxed0 w (.string s) (.slice o l c) 46
  obtain ⟨x0, y0, hB0, hl0⟩ := boxed B0
  have HR : Hid (∀ W, Below w.heap.size w W → Rep W A (.node s ps) (.agg #[.string s, .slice o l c])) := fun W h => Rep.keep (Keeps.below h) _ _ hr'
  clear hr' hs htx hgood
  by_cases h1 : z ≤ 120
  · have e1 : decide ((z : Int) ≤ 120) = true := by simp; omega
    have HT : Hid (∀ x, (decide (z ≤ 120) && x) = x) := fun x => by simp [h1]
    go_enter Try.func61, Try.ntmps61
    go_wp2_with fail
    refine (HZ.out _ _ (HR.out _ hB0)).mono ?_
    rintro e w1 ⟨rfl, hb1⟩
    have B1 := Below.next B0 hb1; obtain ⟨x1, y1, hB1, hl1⟩ := boxed B1; clear hb1
    go_wp2_with fail
    refine (HF.out _ _ (HR.out _ hB1)).mono ?_
    rintro e w2 ⟨rfl, hb2⟩
    have B2 := Below.next B1 hb2; obtain ⟨x2, y2, hB2, hl2⟩ := boxed B2; clear hb2
    cases b1
    · go_wp2
      go_ret
      exact ⟨ret_bool (by rw [Bool.and_assoc, HT.out]; rfl), hB2⟩
    · go_wp2_with fail
      refine (HE.out _ _ (HR.out _ hB2)).mono ?_
      rintro e w3 ⟨rfl, hb3⟩
      have B3 := Below.next B2 hb3; obtain ⟨x3, y3, hB3, hl3⟩ := boxed B3; clear hb3
      go_wp2
      go_ret
      exact ⟨ret_bool (by rw [Bool.and_assoc, HT.out]; rfl), hB3⟩
  · have e1 : decide ((z : Int) ≤ 120) = false := by simp; omega
    have HT : Hid (∀ x, (decide (z ≤ 120) && x) = false) := fun x => by simp [h1]
    go_enter Try.func61, Try.ntmps61
    go_wp2_with fail
    refine (HZ.out _ _ (HR.out _ hB0)).mono ?_
    rintro e w1 ⟨rfl, hb1⟩
    have B1 := Below.next B0 hb1; obtain ⟨x1, y1, hB1, hl1⟩ := boxed B1; clear hb1
    go_wp2
    go_ret
    exact ⟨ret_bool (by rw [Bool.and_assoc, HT.out]), hB1⟩

set_option maxRecDepth 100000 in
set_option maxHeartbeats 800000 in
theorem readExpr_any (s : ByteArray) (w : World) (hs : s.size ≤ 1000000000) : Calls Try.prog 36 #[.string s] w (ReadP (pexpr s.data.toList) w) := by
  have HC := Lib.hid (fun W => read_any s W hs)
  go_enter Try.func36, Try.ntmps36
  go_wp2_with fail
  refine (HC.out _).mono ?_
  rintro e w1 ⟨a, o, l, c, ok, t, rfl, hb1, hr, hok, ht⟩
  have hB : Below w.heap.size w w1 := ((Below.refl _ _).alloc (Nat.le_refl _) _).trans (hb1.mono (by simp))
  obtain ⟨hc1, hf1⟩ := bcell hb1; have hz1 := hb1.size; simp only [World.size_alloc] at hc1 hf1 hz1; have hy1_0 : w.heap.size < w1.heap.size := by omega
  cases ok
  · have HN : Hid (pexpr s.data.toList = none) := by
      show _ = _; unfold pexpr
      cases hp : parse s.data.toList with
      | none => rfl
      | some t' => rw [hp] at hok; cases hok
    clear hok ht
    go_wp2
    go_region
    go_wp2
    exact bodyPost_ret (v := .tuple #[.agg #[.string a, .slice o l c], .bool false]) (by simp [results, Try.results36, go_sem, hc1, hy1_0]) rfl ⟨_, _, _, _, _, t, rfl, (((hB.setCell (by simp) _).setCell (by simp) _).alloc (by simp; omega) _).drew,
      Rep.weak (fun b (hb : w.heap.size + 1 ≤ b) => by omega) _ _ (Rep.keep ((((Keeps.refl _ _).setCell (fun b hb => by simp at hb ⊢; omega) _).setCell (fun b hb => by simp at hb ⊢; omega) _).alloc' _).drew _ _ (Rep.weak (fun b hb => by simpa using hb) _ _ hr)), by rw [HN.out]; rfl, fun t' ht => by rw [HN.out] at ht; cases ht⟩
  · obtain ⟨t', hp⟩ : ∃ t', parse s.data.toList = some t' := by
      cases hp : parse s.data.toList with
      | none => rw [hp] at hok; cases hok
      | some t' => exact ⟨t', rfl⟩
    obtain rfl := ht _ hp
    have hsz := parse_sz hp
    obtain ⟨htx, htg, htd, htl⟩ := (parse_iff _ _).1 hp
    rw [htx] at htl
    have HN : Hid ((pexpr s.data.toList).isSome = (t.isExpr && decide (t.size ≤ 120)) ∧ ∀ t', pexpr s.data.toList = some t' → t = t') := by
      refine ⟨?_, fun t' h => ?_⟩
      · rw [pexpr_isSome, hp]
      · rw [pexpr_some, hp] at h; exact Option.some.inj h.1
    have hr := Rep.weak (A' := fun b => w.heap.size + 1 ≤ b) (fun b hb => by simpa using hb) _ _ hr
    have HT := Lib.hid (fun v w' (hr : Rep w' (fun b => w.heap.size + 1 ≤ b) t v) => isExpression_any t _ v w' hr (by omega) (by omega) htg)
    have heq : (decide (t.size ≤ 120) && (decide (t.depth ≤ 60) && decide (t.text.length ≤ 12000)) && t.isExpr) = (t.isExpr && decide (t.size ≤ 120)) := by
      rw [decide_eq_true htd, decide_eq_true htl]; simp [Bool.and_comm]
    rw [heq] at HT
    generalize (t.isExpr && decide (t.size ≤ 120)) = b at HN HT
    clear hok ht hp heq htx htl htd htg
    go_wp2_with fail
    obtain ⟨z1, z2⟩ := two_new w1 (.string a) (.slice o l c) 46
    have hr1 := Rep.keep (Keeps.alloc _ w1 (.cells #[.string a, .slice o l c] 46)) _ _ hr
    have hB1 : Below w.heap.size w (w1.alloc (.cells #[.string a, .slice o l c] 46)) := hB.alloc (by omega) _
    have q1 : (w1.alloc (.cells #[.string a, .slice o l c] 46)).cell? ⟨w.heap.size, 0, none⟩ = some (.string ⟨#[]⟩) := (World.cell?_of_block (w := w1) (Below.heap_alloc _ _ _ hy1_0)).trans ((hc1 _ _ (by omega)).trans (two_new w _ _ _).1)
    have q2 : (w1.alloc (.cells #[.string a, .slice o l c] 46)).cell? ⟨w.heap.size, 1, none⟩ = some (.slice none 0 0) := (World.cell?_of_block (w := w1) (Below.heap_alloc _ _ _ hy1_0)).trans ((hc1 _ _ (by omega)).trans (two_new w _ _ _).2)
    have q3 : ∀ j, (w1.alloc (.cells #[.string a, .slice o l c] 46)).frozen? ⟨w.heap.size, j, none⟩ = false := fun j => (World.frozen?_of_block (w := w1) (Below.heap_alloc _ _ _ hy1_0)).trans ((hf1 _ _ (by omega)).trans (frozen_new w _ _ _))
    go_region_with (go_at_call 61; refine (callQ (w1 := (w1.alloc (.cells #[.string a, .slice o l c] 46))) ?_ (HT.out _ _ ?_)).mono ?_; (first | assumption | exact (Below.refl _ _).drew); (exact Rep.keep (Keeps.below (by first | assumption | exact (Below.refl _ _).drew)) _ _ hr1); rintro e w' ⟨rfl, hb'⟩; have g1 := (hb'.cell (lt_of_cell z1)).trans z1; have g2 := (hb'.cell (lt_of_cell z2)).trans z2; have g3 := (hb'.cell (lt_of_cell q1)).trans q1; have g4 := (hb'.cell (lt_of_cell q2)).trans q2; have g5 := (hb'.frozen (lt_of_cell q1)).trans (q3 0); have g6 := (hb'.frozen (lt_of_cell q2)).trans (q3 1); have g7 := Nat.lt_of_lt_of_le (lt_of_cell q1) hb'.size)
    all_goals
      have hB2 := hB1.trans (hb'.mono hB1.size)
      go_wp2
      exact bodyPost_ret (v := .tuple #[.agg #[.string a, .slice o l c], .bool b]) (by simp [results, Try.results36, go_sem, g3, g4]) rfl ⟨_, _, _, _, _, t, rfl, (hB2.setCell (by simp) _).setCell (by simp) _,
        Rep.weak (fun b (hb : w.heap.size + 1 ≤ b) => by omega) _ _ (Rep.keep (((Keeps.below hb').setCell (fun b hb => by simp at hb ⊢; omega) _).setCell (fun b hb => by simp at hb ⊢; omega) _) _ _ hr1), HN.out.1.symm, HN.out.2⟩

set_option maxRecDepth 100000 in
set_option maxHeartbeats 400000 in
theorem exprValid_any (s : ByteArray) (w : World) (hs : s.size ≤ 1000000000) :
    Calls Try.prog 22 #[.string s] w fun e w' => e = .returned (.bool (pexpr s.data.toList).isSome) ∧ Below w.heap.size w w' := by
  go_enter Try.func22, Try.ntmps22
  go_wp2_with (go_at_call 36; refine (readExpr_any _ _ hs).mono ?_; rintro e w1 ⟨a, o, l, c, ok, t, rfl, hb1, hr, rfl, -⟩)
  go_ret
  exact ⟨rfl, hb1.alloc hb1.size _⟩
end Go.Proofs.Ytoihkjnfklogpaa
