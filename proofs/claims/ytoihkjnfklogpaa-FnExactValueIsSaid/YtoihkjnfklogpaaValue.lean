/- Values, of the program and of the reference. -/
import Derived.Test.YtoihkjnfklogpaaClosed
namespace Go.Proofs.Ytoihkjnfklogpaa
open Go.RowKit

/-- Is an expression a value? -/
def Tree.isVal (t : Tree) : Bool :=
  if h : t.parts = [] then !nameB t.atom.data.toList
  else if t.hd.data.toList = [112, 97, 105, 114] then Tree.isVal (nth t.parts 1) && Tree.isVal (nth t.parts 2)
  else decide (t.hd.data.toList = [102, 117, 110])
termination_by t.sz
decreasing_by all_goals exact nth_sz h _

theorem isVal_leaf (a : ByteArray) : (Tree.node a []).isVal = !nameB a.data.toList := by rw [Tree.isVal]; simp [Tree.parts, Tree.atom]
theorem isVal_pair {t : Tree} (h : t.parts ≠ []) (hl : t.hd.data.toList = [112, 97, 105, 114]) : t.isVal = (Tree.isVal (nth t.parts 1) && Tree.isVal (nth t.parts 2)) := by
  rw [Tree.isVal]; rw [dif_neg h, if_pos hl]
theorem isVal_rest {t : Tree} (h : t.parts ≠ []) (hl : t.hd.data.toList ≠ [112, 97, 105, 114]) : t.isVal = decide (t.hd.data.toList = [102, 117, 110]) := by
  rw [Tree.isVal]; rw [dif_neg h, if_neg hl]

/-- A name is no numeral. -/
theorem name_num {l : List UInt8} (h : nameB l = true) : numB l = false := by
  cases l with
  | nil => simp [nameB] at h
  | cons c cs =>
    have hc : 97 ≤ c := by
      unfold nameB at h
      simp only [Bool.and_eq_true, decide_eq_true_eq] at h
      simp_all
    have h1 : c ≠ 48 := by rintro rfl; revert hc; decide
    have h2 : c ≠ 45 := by rintro rfl; revert hc; decide
    have hs : stripM (c :: cs) = c :: cs := by unfold stripM; split <;> simp_all
    have hd : digB c = false := by
      unfold digB
      have : ¬ c ≤ 57 := fun h3 => by
        have h4 : (97 : UInt8) ≤ 57 := UInt8.le_trans hc h3
        revert h4; decide
      simp [this]
    unfold numB digitsB digsB
    rw [hs]
    simp [h1, hd]
theorem bare_num {l : List UInt8} (h : bareB l = true) : numB l = !nameB l := by
  unfold bareB at h
  cases hn : nameB l with
  | true => rw [name_num hn]; rfl
  | false => rw [hn] at h; simpa using h

theorem pair_len {a : ByteArray} {p : Tree} {ps : List Tree} (h : (Tree.node a (p :: ps)).isExpr = true) (hp : p.atom.data.toList = [112, 97, 105, 114]) : ps.length + 1 = 3 ∧ kidAt p.atom.data.toList (ps.length + 1) = 1 := by
  obtain ⟨k, hk, hk2, -⟩ := expr_cases h
  rw [hp] at hk2
  have h2 : kids2 [112, 97, 105, 114] = (1, 3) := by decide
  rw [h2] at hk2
  injection hk2 with h3 h4
  exact ⟨h4.symm, by rw [hk, ← h3]⟩

set_option maxRecDepth 100000 in
set_option maxHeartbeats 1600000 in
theorem l4Is_any (n : Nat) : ∀ (t : Tree) (A : Nat → Prop) (v : Value) (w : World), t.sz ≤ n → Rep w A t v → t.sz ≤ 24000 → t.text.length ≤ 12000 → t.good = true → t.isExpr = true →
    Calls Try.prog 25 #[v] w fun e w' => e = .returned (.bool t.isVal) ∧ Below w.heap.size w w' := by
  induction n with
  | zero => intro t A v w h; cases t; simp [Tree.sz] at h
  | succ n ih =>
    intro t A v w hn hr hb htx hgood hexp
    have hatom := atom_leI hgood
    obtain ⟨s, ps⟩ := t
    simp only [Rep] at hr
    obtain ⟨o, l, c, rfl, hs, hcap⟩ := hr
    obtain rfl := hs.len
    obtain ⟨hgl, hge⟩ := Tree.good_parts hgood
    cases ps with
    | nil =>
      have B0 := boxed0 w (.string s) (.slice o 0 c) 40
      obtain ⟨x0, y0, hB0, hl0⟩ := boxed B0
      have hemp : s.toList.isEmpty = false := by rw [Lib.toList_data]; simpa using hge.1 rfl
      have hemp2 : (s.toList == []) = false := by rw [Lib.toList_data]; simpa using hge.1 rfl
      have HT : Hid ((Tree.node s []).isVal = !nameB s.data.toList) := isVal_leaf _
      have HM := Lib.hid (fun W => l2Name_any s W (by simp only [Tree.atom] at hatom; omega))
      clear hge hgl hgood hs hexp ih htx hatom hb
      generalize nameB s.data.toList = b at *
      go_enter Try.func25, Try.ntmps25
      go_wp2_with fail
      refine (HM.out _).mono ?_
      rintro e w1 ⟨rfl, rfl⟩
      go_wp2
      go_ret
      exact ⟨ret_bool HT.out.symm, hB0⟩
    | cons p ps =>
      have hse : s.data.toList = [] := Classical.byContradiction fun h => absurd (hge.2 h) (by simp)
      have hemp : s.toList.isEmpty = true := by rw [Lib.toList_data, hse]; rfl
      have hemp2 : (s.toList == []) = true := by rw [Lib.toList_data, hse]; rfl
      have hne : (Tree.node s (p :: ps)).parts ≠ [] := by simp [Tree.parts]
      obtain ⟨b, off, rfl, hA, hc⟩ := hs.uncons
      obtain ⟨k, hk, hk2, hk1, hkn, -, hkx⟩ := expr_cases hexp
      have B0 := boxed0 w (.string s) (.slice (some ⟨b, off, none⟩) (ps.length + 1) c) 40
      obtain ⟨x0, y0, hB0, hl0⟩ := boxed B0
      simp only [List.length_cons] at hcap
      have HRC : Hid (∀ W, Below w.heap.size w W → RepC W A (p :: ps) b off) := fun W h => RepC.keep (Keeps.below h) hA _ _ hc
      obtain ⟨o0, n0, c0, ca0, cb0, r0⟩ := (HRC.out _ hB0).nth 0 (k := off) rfl rfl
      have hpp : ∀ (i : Nat) (q : Tree), k ≤ i → (p :: ps)[i]? = some q → q.sz ≤ n ∧ q.sz ≤ 24000 ∧ q.text.length ≤ 12000 ∧ q.good = true ∧ q.isExpr = true := fun i q hi hq => by
        have h1 := Tree.part_sz (t := .node s (p :: ps)) (List.mem_of_getElem? hq)
        have h2 := text_part_le (a := s) (List.mem_of_getElem? hq)
        exact ⟨by omega, by omega, by omega, Tree.good_part _ _ _ hq hgl, hkx i q hi hq⟩
      by_cases hp : p.atom.data.toList = [112, 97, 105, 114]
      · obtain ⟨hl3, hk3⟩ := pair_len hexp hp
        rw [hk] at hk3
        subst hk3
        have e1 : (p.atom.toList == [112, 97, 105, 114]) = true := by rw [Lib.toList_data, hp]; rfl
        obtain ⟨q1, hq1⟩ : ∃ q, (p :: ps)[1]? = some q := ⟨(p :: ps)[1]'(by simp only [List.length_cons]; omega), by simp⟩
        obtain ⟨q2, hq2⟩ : ∃ q, (p :: ps)[2]? = some q := ⟨(p :: ps)[2]'(by simp only [List.length_cons]; omega), by simp⟩
        have HT : Hid ((Tree.node s (p :: ps)).isVal = (q1.isVal && q2.isVal)) := by
          show _ = _; rw [isVal_pair hne hp]; show (Tree.isVal (nth (p :: ps) 1) && Tree.isVal (nth (p :: ps) 2)) = _; rw [nth_of hq1, nth_of hq2]
        have hlq : 3 ≤ ps.length + 1 := by omega
        have HQ1 := Lib.hid (fun v w' hr => ih q1 A v w' (hpp 1 q1 (by omega) hq1).1 hr (hpp 1 q1 (by omega) hq1).2.1 (hpp 1 q1 (by omega) hq1).2.2.1 (hpp 1 q1 (by omega) hq1).2.2.2.1 (hpp 1 q1 (by omega) hq1).2.2.2.2)
        have HQ2 := Lib.hid (fun v w' hr => ih q2 A v w' (hpp 2 q2 (by omega) hq2).1 hr (hpp 2 q2 (by omega) hq2).2.1 (hpp 2 q2 (by omega) hq2).2.2.1 (hpp 2 q2 (by omega) hq2).2.2.2.1 (hpp 2 q2 (by omega) hq2).2.2.2.2)
        have Hq1 := Lib.hid hq1
        have Hq2 := Lib.hid hq2
        generalize q1.isVal = b1 at *
        generalize q2.isVal = b2 at *
        clear hge hgl hgood hs hexp ih htx hatom hb hse hc hkx hpp hk2 hk hl3 hp hq1 hq2 r0 hn
        go_enter Try.func25, Try.ntmps25
        obtain ⟨o1, n1, c1, ca1, cb1, r1⟩ := (HRC.out _ hB0).nth 1 (p := q1) (k := off + 2) Hq1.out rfl
        go_wp2_with fail
        refine (HQ1.out _ _ r1).mono ?_
        rintro e w1 ⟨rfl, hb1⟩
        have B1 := Below.next B0 hb1; obtain ⟨x1, y1, hB1, hl1⟩ := boxed B1; clear hb1
        cases b1
        · go_wp2
          go_ret
          exact ⟨ret_bool (by rw [HT.out]; rfl), hB1⟩
        · obtain ⟨o2, n2, c2, ca2, cb2, r2⟩ := (HRC.out _ hB1).nth 2 (p := q2) (k := off + 4) Hq2.out rfl
          go_wp2_with fail
          refine (HQ2.out _ _ r2).mono ?_
          rintro e w2 ⟨rfl, hb2⟩
          have B2 := Below.next B1 hb2; obtain ⟨x2, y2, hB2, hl2⟩ := boxed B2; clear hb2
          go_wp2
          go_ret
          exact ⟨ret_bool (by rw [HT.out]; rfl), hB2⟩
      · have e1 : (p.atom.toList == [112, 97, 105, 114]) = false := by rw [Lib.toList_data]; simpa using hp
        have HT : Hid ((Tree.node s (p :: ps)).isVal = (p.atom.toList == [102, 117, 110])) := by
          show _ = _; rw [isVal_rest hne hp]; show decide (p.atom.data.toList = [102, 117, 110]) = (p.atom.toList == [102, 117, 110]); rw [Lib.toList_data]; rcases Decidable.em (p.atom.data.toList = [102, 117, 110]) with h | h <;> simp [h]
        clear hge hgl hgood hs hexp ih htx hatom hb hse hc hkx hpp hk2 hk hp r0 hn
        cases he : (p.atom.toList == [102, 117, 110])
        all_goals
          have HT2 := Lib.hid (HT.out.trans he)
          go_enter Try.func25, Try.ntmps25
          go_wp2
          go_ret
          exact ⟨ret_bool HT2.out.symm, hB0⟩

set_option maxRecDepth 100000 in
set_option maxHeartbeats 1600000 in
theorem isValue_any (n : Nat) : ∀ (t : Tree) (A : Nat → Prop) (v : Value) (w : World), t.sz ≤ n → Rep w A t v → t.sz ≤ 24000 → t.text.length ≤ 12000 → t.good = true → t.isExpr = true →
    Calls Try.prog 27 #[v] w fun e w' => e = .returned (.bool t.isVal) ∧ Below w.heap.size w w' := by
  induction n with
  | zero => intro t A v w h; cases t; simp [Tree.sz] at h
  | succ n ih =>
    intro t A v w hn hr hb htx hgood hexp
    have hatom := atom_leI hgood
    have hln : t.parts.length ≤ 1000000000 := by cases t with | node a ps => have := Tree.length_le_szL ps; simp only [Tree.sz, Tree.parts] at *; omega
    have HHD := Lib.hid (fun v w hr => head_any t A v w hr hln)
    have HIS := Lib.hid (fun v w hr => is_any t A v w ⟨#[112, 97, 105, 114]⟩ 3 hr hln)
    obtain ⟨s, ps⟩ := t
    have hr' := hr
    simp only [Rep] at hr
    obtain ⟨o, l, c, rfl, hs, hcap⟩ := hr
    obtain rfl := hs.len
    obtain ⟨hgl, hge⟩ := Tree.good_parts hgood
    have HR : Hid (∀ W, Below w.heap.size w W → Rep W A (.node s ps) (.agg #[.string s, .slice o ps.length c])) := fun W h => Rep.keep (Keeps.below h) _ _ hr'
    have B0 := boxed0 w (.string s) (.slice o ps.length c) 46
    obtain ⟨x0, y0, hB0, hl0⟩ := boxed B0
    cases ps with
    | nil =>
      have HZ : Hid (isZ (.node s []) ⟨#[112, 97, 105, 114]⟩ 3 = false) := by show _ = _; unfold isZ; simp [Tree.parts]
      have HHD' : Hid (∀ v w, Rep w A (.node s []) v → Calls Try.prog 32 #[v] w fun e w' => e = .returned (.string ⟨#[]⟩) ∧ Below w.heap.size w w') := HHD.out
      rw [HZ.out] at HIS
      have hbare : bareB s.data.toList = true := by simpa [Tree.isExpr] using hexp
      have HT : Hid ((Tree.node s []).isVal = numB s.data.toList) := by show _ = _; rw [isVal_leaf, bare_num hbare]
      have HM := Lib.hid (fun W => isNumeral_any s W (by simp only [Tree.atom] at hatom; omega))
      clear hge hgl hgood hs hexp ih htx hatom hb hbare hr' HHD HZ hn
      generalize numB s.data.toList = b at *
      go_enter Try.func27, Try.ntmps27
      go_wp2_with fail
      refine (HIS.out _ _ (HR.out _ hB0)).mono ?_
      rintro e w1 ⟨rfl, hb1⟩
      have B1 := Below.next B0 hb1; obtain ⟨x1, y1, hB1, hl1⟩ := boxed B1; clear hb1
      go_wp2_with fail
      refine (HHD'.out _ _ (HR.out _ hB1)).mono ?_
      rintro e w2 ⟨rfl, hb2⟩
      have B2 := Below.next B1 hb2; obtain ⟨x2, y2, hB2, hl2⟩ := boxed B2; clear hb2
      go_wp2_with fail
      refine (isAtom_any _ _ _ _ _).mono ?_
      rintro e w3 ⟨rfl, hb3⟩
      have B3 := Below.next B2 hb3; obtain ⟨x3, y3, hB3, hl3⟩ := boxed B3; clear hb3
      go_wp2_with fail
      refine (HM.out _).mono ?_
      rintro e w4 ⟨rfl, rfl⟩
      go_wp2
      go_ret
      exact ⟨ret_bool HT.out.symm, hB3⟩
    | cons p ps =>
      have hne : (Tree.node s (p :: ps)).parts ≠ [] := by simp [Tree.parts]
      have hlenb : (((p :: ps).length : Int) == 0) = false := by simp only [List.length_cons, beq_eq_false_iff_ne, ne_eq]; omega
      have HHD' : Hid (∀ v w, Rep w A (.node s (p :: ps)) v → Calls Try.prog 32 #[v] w fun e w' => e = .returned (.string p.atom) ∧ Below w.heap.size w w') := HHD.out
      obtain ⟨b, off, rfl, hA, hc⟩ := hs.uncons
      obtain ⟨k, hk, hk2, hk1, hkn, -, hkx⟩ := expr_cases hexp
      simp only [List.length_cons] at hcap B0 x0 y0 hB0 hl0 HR hlenb
      have HRC : Hid (∀ W, Below w.heap.size w W → RepC W A (p :: ps) b off) := fun W h => RepC.keep (Keeps.below h) hA _ _ hc
      have hpp : ∀ (i : Nat) (q : Tree), k ≤ i → (p :: ps)[i]? = some q → q.sz ≤ n ∧ q.sz ≤ 24000 ∧ q.text.length ≤ 12000 ∧ q.good = true ∧ q.isExpr = true := fun i q hi hq => by
        have h1 := Tree.part_sz (t := .node s (p :: ps)) (List.mem_of_getElem? hq)
        have h2 := text_part_le (a := s) (List.mem_of_getElem? hq)
        exact ⟨by omega, by omega, by omega, Tree.good_part _ _ _ hq hgl, hkx i q hi hq⟩
      by_cases hp : p.atom.data.toList = [112, 97, 105, 114]
      · obtain ⟨hl3, hk3⟩ := pair_len hexp hp
        rw [hk] at hk3
        subst hk3
        have HZ : Hid (isZ (.node s (p :: ps)) ⟨#[112, 97, 105, 114]⟩ 3 = true) := by
          show (decide (((ps.length + 1 : Nat) : Int) = 3) && (p.atom.toList == (⟨#[112, 97, 105, 114]⟩ : ByteArray).toList)) = true
          rw [Lib.toList_data, Lib.toList_data, hp, decide_eq_true (by omega)]; rfl
        rw [HZ.out] at HIS
        obtain ⟨q1, hq1⟩ : ∃ q, (p :: ps)[1]? = some q := ⟨(p :: ps)[1]'(by simp only [List.length_cons]; omega), by simp⟩
        obtain ⟨q2, hq2⟩ : ∃ q, (p :: ps)[2]? = some q := ⟨(p :: ps)[2]'(by simp only [List.length_cons]; omega), by simp⟩
        have HT : Hid ((Tree.node s (p :: ps)).isVal = (q1.isVal && q2.isVal)) := by
          show _ = _; rw [isVal_pair hne hp]; show (Tree.isVal (nth (p :: ps) 1) && Tree.isVal (nth (p :: ps) 2)) = _; rw [nth_of hq1, nth_of hq2]
        have hlq : 3 ≤ ps.length + 1 := by omega
        have HQ1 := Lib.hid (fun v w' hr => ih q1 A v w' (hpp 1 q1 (by omega) hq1).1 hr (hpp 1 q1 (by omega) hq1).2.1 (hpp 1 q1 (by omega) hq1).2.2.1 (hpp 1 q1 (by omega) hq1).2.2.2.1 (hpp 1 q1 (by omega) hq1).2.2.2.2)
        have HQ2 := Lib.hid (fun v w' hr => ih q2 A v w' (hpp 2 q2 (by omega) hq2).1 hr (hpp 2 q2 (by omega) hq2).2.1 (hpp 2 q2 (by omega) hq2).2.2.1 (hpp 2 q2 (by omega) hq2).2.2.2.1 (hpp 2 q2 (by omega) hq2).2.2.2.2)
        have Hq1 := Lib.hid hq1
        have Hq2 := Lib.hid hq2
        generalize q1.isVal = b1 at *
        generalize q2.isVal = b2 at *
        clear hge hgl hgood hs hexp ih htx hatom hb hc hkx hpp hk2 hk hl3 hp hq1 hq2 hn hr' HHD HZ
        go_enter Try.func27, Try.ntmps27
        go_wp2_with fail
        refine (HIS.out _ _ (HR.out _ hB0)).mono ?_
        rintro e w1 ⟨rfl, hb1⟩
        have B1 := Below.next B0 hb1; obtain ⟨x1, y1, hB1, hl1⟩ := boxed B1; clear hb1
        obtain ⟨o1, n1, c1, ca1, cb1, r1⟩ := (HRC.out _ hB1).nth 1 (p := q1) (k := off + 2) Hq1.out rfl
        go_wp2_with fail
        refine (HQ1.out _ _ r1).mono ?_
        rintro e w2 ⟨rfl, hb2⟩
        have B2 := Below.next B1 hb2; obtain ⟨x2, y2, hB2, hl2⟩ := boxed B2; clear hb2
        cases b1
        · go_wp2
          go_ret
          exact ⟨ret_bool (by rw [HT.out]; rfl), hB2⟩
        · obtain ⟨o2, n2, c2, ca2, cb2, r2⟩ := (HRC.out _ hB2).nth 2 (p := q2) (k := off + 4) Hq2.out rfl
          go_wp2_with fail
          refine (HQ2.out _ _ r2).mono ?_
          rintro e w3 ⟨rfl, hb3⟩
          have B3 := Below.next B2 hb3; obtain ⟨x3, y3, hB3, hl3⟩ := boxed B3; clear hb3
          go_wp2
          go_ret
          exact ⟨ret_bool (by rw [HT.out]; rfl), hB3⟩
      · have HZ : Hid (isZ (.node s (p :: ps)) ⟨#[112, 97, 105, 114]⟩ 3 = false) := by
          show _ = _; unfold isZ
          simp only [Tree.hd]
          rw [Lib.toList_data, Lib.toList_data]
          have : (p.atom.data.toList == [112, 97, 105, 114]) = false := by simpa using hp
          rw [this, Bool.and_false]
        rw [HZ.out] at HIS
        have HT : Hid ((Tree.node s (p :: ps)).isVal = (p.atom.toList == [102, 117, 110])) := by
          show _ = _; rw [isVal_rest hne hp]; show decide (p.atom.data.toList = [102, 117, 110]) = (p.atom.toList == [102, 117, 110]); rw [Lib.toList_data]; rcases Decidable.em (p.atom.data.toList = [102, 117, 110]) with h | h <;> simp [h]
        clear hge hgl hgood hs hexp ih htx hatom hb hc hkx hpp hk2 hk hp hn hr' HHD HZ
        cases he : (p.atom.toList == [102, 117, 110])
        · have HT2 := Lib.hid (HT.out.trans he)
          go_enter Try.func27, Try.ntmps27
          go_wp2_with fail
          refine (HIS.out _ _ (HR.out _ hB0)).mono ?_
          rintro e w1 ⟨rfl, hb1⟩
          have B1 := Below.next B0 hb1; obtain ⟨x1, y1, hB1, hl1⟩ := boxed B1; clear hb1
          go_wp2_with fail
          refine (HHD'.out _ _ (HR.out _ hB1)).mono ?_
          rintro e w2 ⟨rfl, hb2⟩
          have B2 := Below.next B1 hb2; obtain ⟨x2, y2, hB2, hl2⟩ := boxed B2; clear hb2
          go_wp2_with fail
          refine (isAtom_any _ _ _ _ _).mono ?_
          rintro e w3 ⟨rfl, hb3⟩
          have B3 := Below.next B2 hb3; obtain ⟨x3, y3, hB3, hl3⟩ := boxed B3; clear hb3
          go_wp2
          go_ret
          exact ⟨ret_bool HT2.out.symm, hB3⟩
        · have HT2 := Lib.hid (HT.out.trans he)
          go_enter Try.func27, Try.ntmps27
          go_wp2_with fail
          refine (HIS.out _ _ (HR.out _ hB0)).mono ?_
          rintro e w1 ⟨rfl, hb1⟩
          have B1 := Below.next B0 hb1; obtain ⟨x1, y1, hB1, hl1⟩ := boxed B1; clear hb1
          go_wp2_with fail
          refine (HHD'.out _ _ (HR.out _ hB1)).mono ?_
          rintro e w2 ⟨rfl, hb2⟩
          have B2 := Below.next B1 hb2; obtain ⟨x2, y2, hB2, hl2⟩ := boxed B2; clear hb2
          go_wp2
          go_ret
          exact ⟨ret_bool HT2.out.symm, hB2⟩

set_option maxRecDepth 100000 in
set_option maxHeartbeats 800000 in
theorem valueIs_any (s : ByteArray) (w : World) (hs : s.size ≤ 1000000000) :
    Calls Try.prog 8 #[.string s] w fun e w' => e = .returned (.bool (isOf Tree.isVal (pclosed s.data.toList))) ∧ Below w.heap.size w w' := by
  have HC := Lib.hid (fun W => readClosed_any s W hs)
  go_enter Try.func8, Try.ntmps8
  go_wp2_with fail
  refine (HC.out _).mono ?_
  rintro e w1 ⟨a, o, l, c, ok, t, rfl, hb1, hr, hok, ht⟩
  cases hp : pclosed s.data.toList with
  | none =>
    rw [hp] at hok
    have hok' : ok = false := hok
    subst hok'
    have HP := Lib.hid hp
    clear hok ht hp
    go_wp2
    go_ret
    exact ⟨ret_bool (by rw [HP.out]; rfl), hb1.alloc hb1.size _⟩
  | some t' =>
    rw [hp] at hok
    have hok' : ok = true := hok
    subst hok'
    obtain rfl := ht _ hp
    obtain ⟨hg, hsz, htx, he, -⟩ := pexpr_facts (pclosed_some.1 hp).1
    have HP := Lib.hid hp
    clear hok ht hp
    have HM := Lib.hid (isValue_any _ t _ _ (w1.alloc (.cells #[.string a, .slice o l c] 46)) (Nat.le_refl _) (Rep.keep (Keeps.alloc _ _ _) _ _ hr) hsz htx hg he)
    have hB1 : Below w.heap.size w (w1.alloc (.cells #[.string a, .slice o l c] 46)) := hb1.alloc hb1.size _
    clear hg hsz htx he
    go_wp2_with fail
    refine HM.out.mono ?_
    rintro e w2 ⟨rfl, hb2⟩
    go_wp2
    go_ret
    exact ⟨ret_bool (by rw [HP.out]; rfl), hB1.trans (hb2.mono hB1.size)⟩

set_option maxRecDepth 100000 in
set_option maxHeartbeats 800000 in
theorem sValueIs_any (s : ByteArray) (w : World) (hs : s.size ≤ 1000000000) :
    Calls Try.prog 7 #[.string s] w fun e w' => e = .returned (.bool (isOf Tree.isVal (pclosed s.data.toList))) ∧ Below w.heap.size w w' := by
  have HC := Lib.hid (fun W => l2Parse_any s W hs)
  have HCL := Lib.hid (fun W => sExprClosed_any s W hs)
  go_enter Try.func7, Try.ntmps7
  go_wp2_with fail
  refine (HC.out _).mono ?_
  rintro e w1 ⟨a, o, l, c, ok, t, rfl, hb1, hr, hok, ht⟩
  have hB1 : Below w.heap.size w (w1.alloc (.cells #[.string a, .slice o l c] 40)) := hb1.alloc hb1.size _
  cases hp : pexpr s.data.toList with
  | none =>
    rw [hp] at hok
    have hok' : ok = false := hok
    subst hok'
    have HP : Hid (pclosed s.data.toList = none) := by show _ = _; unfold pclosed; rw [hp]
    clear hok ht hp
    go_wp2
    go_ret
    exact ⟨ret_bool (by rw [HP.out]; rfl), hB1⟩
  | some t' =>
    rw [hp] at hok
    have hok' : ok = true := hok
    subst hok'
    obtain rfl := ht _ hp
    obtain ⟨hg, hsz, htx, he, -⟩ := pexpr_facts hp
    have hr1 := Rep.keep (Keeps.alloc _ w1 (.cells #[.string a, .slice o l c] 40)) _ _ hr
    have hx1 := heap_alloc_new w1 (.cells #[.string a, .slice o l c] 40)
    have HX1 := Lib.hid hx1
    have HL : Hid (∀ W, Below (w1.alloc (.cells #[.string a, .slice o l c] 40)).heap.size (w1.alloc (.cells #[.string a, .slice o l c] 40)) W → Calls Try.prog 25 #[.agg #[.string a, .slice o l c]] W fun e w' => e = .returned (.bool t.isVal) ∧ Below W.heap.size W w') := fun W h => l4Is_any _ t _ _ W (Nat.le_refl _) (Rep.keep (Keeps.below h) _ _ hr1) hsz htx hg he
    cases hcl : pclosed s.data.toList with
    | none =>
      rw [hcl] at HCL
      have HPC := Lib.hid hcl
      clear hok ht hp hr hr1 hg hsz htx he hcl hx1
      go_wp2_with fail
      refine (HCL.out _).mono ?_
      rintro e w2 ⟨rfl, hb2⟩
      go_wp2
      go_ret
      exact ⟨ret_bool (by rw [HPC.out]; rfl), hB1.trans (hb2.mono hB1.size)⟩
    | some t2 =>
      rw [hcl] at HCL
      obtain rfl : t = t2 := by have := (pclosed_some.1 hcl).1; rw [hp] at this; exact Option.some.inj this
      have HPC := Lib.hid hcl
      clear hok ht hp hr hr1 hg hsz htx he hcl hx1
      go_wp2_with fail
      refine (HCL.out _).mono ?_
      rintro e w2 ⟨rfl, hb2⟩
      obtain ⟨x2, y2⟩ := box_cells ((hb2.block w1.heap.size (by simp)).trans HX1.out)
      have HM := Lib.hid (HL.out w2 hb2)
      have hB2 := hB1.trans (hb2.mono hB1.size)
      go_wp2_with fail
      refine HM.out.mono ?_
      rintro e w3 ⟨rfl, hb3⟩
      go_wp2
      go_ret
      exact ⟨ret_bool (by rw [HPC.out]; rfl), hB2.trans (hb3.mono hB2.size)⟩
end Go.Proofs.Ytoihkjnfklogpaa
