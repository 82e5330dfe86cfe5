/- Simple and normal expressions, of the program and of the reference. -/
import Derived.Test.YtoihkjnfklogpaaExprA
import Derived.Test.YtoihkjnfklogpaaPlainH
import Derived.Deep.LoopGhost
import Derived.Lib.BufferMore
namespace Go.Proofs.Ytoihkjnfklogpaa
open Go.RowKit

theorem leafB_yes {q : Tree} (h : q.good = true) (hl : q.leafB = true) : q.atom.data.toList ≠ [] := by
  obtain ⟨a, ps⟩ := q
  have hp : ps = [] := by simpa [Tree.leafB, Tree.parts] using hl
  exact (Tree.good_parts h).2.1 hp
theorem leafB_no {q : Tree} (h : q.good = true) (hl : q.leafB = false) : q.atom.data.toList = [] := by
  obtain ⟨a, ps⟩ := q
  have hp : ps ≠ [] := by simpa [Tree.leafB, Tree.parts] using hl
  exact Classical.byContradiction fun e => hp ((Tree.good_parts h).2.2 e)
theorem cells_set {W : World} {g : Nat} {ty : TypeId} {x y : Value} (h : W.heap[g]? = some (.cells #[x, y] ty (0, 0))) (a b : Value) : ((W.setCell ⟨g, 0, none⟩ a).setCell ⟨g, 1, none⟩ b).heap[g]? = some (.cells #[a, b] ty (0, 0)) :=
  Lib.heap_setCell_same (i := 1) (Lib.heap_setCell_same (i := 0) h a) b

/-- By its head: what an expression with parts is. -/
theorem expr_heads {a : ByteArray} {p : Tree} {ps : List Tree} (h : (Tree.node a (p :: ps)).isExpr = true) :
    (p.atom.data.toList = [108, 101, 116] ∧ ps.length + 1 = 4 ∧ kidAt p.atom.data.toList (ps.length + 1) = 2) ∨ (p.atom.data.toList = [102, 117, 110] ∧ ps.length + 1 = 6 ∧ kidAt p.atom.data.toList (ps.length + 1) = 5) ∨
    (p.atom.data.toList = [105, 102] ∧ ps.length + 1 = 4 ∧ kidAt p.atom.data.toList (ps.length + 1) = 1) ∨
    (p.atom.data.toList ≠ [108, 101, 116] ∧ p.atom.data.toList ≠ [102, 117, 110] ∧ p.atom.data.toList ≠ [105, 102] ∧ kidAt p.atom.data.toList (ps.length + 1) = 1) := by
  obtain ⟨k, hk, hk2, h1, h2, -⟩ := expr_cases h
  rcases kidAt_cases p.atom.data.toList (ps.length + 1) with e | ⟨e, -, -, h7, h8⟩ | ⟨e, hl, h7⟩ | ⟨e, hl, h8⟩
  · omega
  · by_cases h9 : p.atom.data.toList = [105, 102]
    · right; right; left
      refine ⟨h9, ?_, e⟩
      rw [h9] at hk2
      have : kids2 [105, 102] = (1, 4) := by decide
      rw [this] at hk2
      injection hk2 with _ h4
      exact h4.symm
    · right; right; right; exact ⟨h7, h8, h9, e⟩
  · left; exact ⟨h7, hl, e⟩
  · right; left; exact ⟨h8, hl, e⟩

theorem nth_of {ps : List Tree} {i : Nat} {q : Tree} (h : ps[i]? = some q) : nth ps i = q := by
  unfold nth; rw [List.getD_eq_getElem?_getD, h]; rfl

theorem leaf_all_no {ps : List Tree} {j : Nat} {q : Tree} (h : ps[j]? = some q) (hq : q.leafB = false) : ps.all Tree.leafB = false := by
  rw [List.all_eq_false]; exact ⟨q, List.mem_of_getElem? h, by simp [hq]⟩
theorem leaf_all_yes {ps : List Tree} (h : ∀ (j : Nat) (q : Tree), ps[j]? = some q → q.leafB = true) : ps.all Tree.leafB = true := by
  rw [List.all_eq_true]; intro q hq
  obtain ⟨i, hi⟩ := List.getElem?_of_mem hq
  exact h i q hi

set_option maxRecDepth 100000 in
set_option maxHeartbeats 800000 in
theorem l4Head_any (t : Tree) (A : Nat → Prop) (v : Value) (w : World) (hr : Rep w A t v) (hg : t.good = true) :
    Calls Try.prog 29 #[v] w fun e w' => e = .returned (.string t.hd) ∧ Below w.heap.size w w' := by
  obtain ⟨s, ps⟩ := t
  obtain ⟨hgl, hge⟩ := Tree.good_parts hg
  simp only [Rep] at hr
  obtain ⟨o, l, c, rfl, hs, hcap⟩ := hr
  obtain rfl := hs.len
  have B0 := boxed0 w (.string s) (.slice o ps.length c) 40
  obtain ⟨x0, y0, hB0, hl0⟩ := boxed B0
  cases ps with
  | nil =>
    have hemp : s.toList.isEmpty = false := by rw [Lib.toList_data]; simpa using hge.1 rfl
    have hemp2 : (s.toList == []) = false := by rw [Lib.toList_data]; simpa using hge.1 rfl
    have HT : Hid ((Tree.node s []).hd = ⟨#[]⟩) := rfl
    clear hge hgl hg hs
    go_enter Try.func29, Try.ntmps29
    go_wp2
    go_ret
    exact ⟨ret_string HT.out.symm, hB0⟩
  | cons p ps =>
    have hse : s.data.toList = [] := Classical.byContradiction fun h => absurd (hge.2 h) (by simp)
    have hemp : s.toList.isEmpty = true := by rw [Lib.toList_data, hse]; rfl
    have hemp2 : (s.toList == []) = true := by rw [Lib.toList_data, hse]; rfl
    have HT : Hid ((Tree.node s (p :: ps)).hd = p.atom) := rfl
    obtain ⟨b, off, rfl, hA, hc⟩ := hs.uncons
    obtain ⟨o0, n0, c0, ca0, cb0, r0⟩ := (RepC.keep (Keeps.below hB0) hA _ _ hc).nth 0 (k := off) rfl rfl
    have hlp : 0 < (p :: ps).length := by simp
    have hlen : (((p :: ps).length : Int) == 0) = false := by simp only [List.length_cons, beq_eq_false_iff_ne, ne_eq]; omega
    clear hge hg hgl hs hc hse
    generalize (p :: ps).length = l at *
    go_enter Try.func29, Try.ntmps29
    go_wp2
    go_ret
    exact ⟨ret_string HT.out.symm, hB0⟩

set_option maxRecDepth 100000 in
set_option maxHeartbeats 3200000 in
theorem l5Simple_step (n : Nat) (HN : ∀ (t : Tree) (A : Nat → Prop) (v : Value) (w : World), t.sz ≤ n → Rep w A t v → t.sz ≤ 24000 → t.text.length ≤ 12000 → t.good = true → t.isExpr = true →
    Calls Try.prog 56 #[v] w fun e w' => e = .returned (.bool (t.nrm true)) ∧ Below w.heap.size w w') :
    ∀ (t : Tree) (A : Nat → Prop) (v : Value) (w : World), t.sz ≤ n + 1 → Rep w A t v → t.sz ≤ 24000 → t.text.length ≤ 12000 → t.good = true → t.isExpr = true →
    Calls Try.prog 83 #[v] w fun e w' => e = .returned (.bool (t.nrm false)) ∧ Below w.heap.size w w' := by
  intro t A v w hn hr hb htx hgood hexp
  obtain ⟨s, ps⟩ := t
  have hr' := hr
  simp only [Rep] at hr
  obtain ⟨o, l, c, rfl, hs, hcap⟩ := hr
  obtain rfl := hs.len
  obtain ⟨hgl, hge⟩ := Tree.good_parts hgood
  cases ps with
  | nil =>
    have B0 := boxed0 w (.string s) (.slice o 0 c) 40
    obtain ⟨x0, y0, hB0, hl0⟩ := boxed B0
    have HT : Hid ((Tree.node s []).nrm false = true) := nrm_leaf _ _
    have hemp : s.toList.isEmpty = false := by rw [Lib.toList_data]; simpa using hge.1 rfl
    have hemp2 : (s.toList == []) = false := by rw [Lib.toList_data]; simpa using hge.1 rfl
    clear hge hgl hgood hs hexp HN hr'
    go_enter Try.func83, Try.ntmps83
    go_wp2
    go_ret
    exact ⟨ret_bool HT.out.symm, hB0⟩
  | cons p ps =>
    have hse : s.data.toList = [] := Classical.byContradiction fun h => absurd (hge.2 h) (by simp)
    have hemp : s.toList.isEmpty = true := by rw [Lib.toList_data, hse]; rfl
    have hemp2 : (s.toList == []) = true := by rw [Lib.toList_data, hse]; rfl
    have hne : (Tree.node s (p :: ps)).parts ≠ [] := by simp [Tree.parts]
    obtain ⟨b, off, rfl, hA, hc⟩ := hs.uncons
    obtain ⟨k, hk, hk2, hk1, hkn, -, hkx⟩ := expr_cases hexp
    have hpp : ∀ (i : Nat) (q : Tree), (p :: ps)[i]? = some q → q.sz ≤ n ∧ q.sz ≤ 24000 ∧ q.text.length ≤ 12000 ∧ q.good = true := fun i q hq => by
      have h1 := Tree.sz_part _ _ _ hq
      have h2 := text_part_le (a := s) (List.mem_of_getElem? hq)
      simp only [Tree.sz] at hn hb
      exact ⟨by omega, by omega, by omega, Tree.good_part _ _ _ hq hgl⟩
    have hll := Tree.length_le_szL (p :: ps)
    have HHS := expr_heads hexp
    rw [hk] at HHS
    have B0 := boxed0 w (.string s) (.slice (some ⟨b, off, none⟩) (ps.length + 1) c) 40
    obtain ⟨x0, y0, hB0, hl0⟩ := boxed B0
    simp only [List.length_cons] at hcap hll
    have HRC : Hid (∀ W, Below w.heap.size w W → RepC W A (p :: ps) b off) := fun W h => RepC.keep (Keeps.below h) hA _ _ hc
    have HQ := Lib.hid (fun (i : Nat) (q : Tree) (hi : k ≤ i) (hq : (p :: ps)[i]? = some q) v w' hr => HN q A v w' (hpp i q hq).1 hr (hpp i q hq).2.1 (hpp i q hq).2.2.1 (hpp i q hq).2.2.2 (hkx i q hi hq))
    have HPP := Lib.hid hpp
    have HKX := Lib.hid hkx
    obtain ⟨o0, n0, c0, ca0, cb0, r0⟩ := (HRC.out _ hB0).nth 0 (k := off) rfl rfl
    have hpe : p.atom.data.toList ≠ [] := kidAt_ne (by rw [hk]; omega)
    have hpe1 : p.atom.toList.isEmpty = false := by rw [Lib.toList_data]; simpa using hpe
    have hpe2 : (p.atom.toList == []) = false := by rw [Lib.toList_data]; simpa using hpe
    have hlN : ps.length + 1 ≤ 24000 := by simp only [Tree.sz] at hb; omega
    have HK := Lib.hid hk
    clear hc hs hse hge hgood hgl HN hexp hkx hpp hk2 hk hb hn hpe hr' htx
    rcases HHS with ⟨h7, hl, hk⟩ | ⟨h8, hl, hk⟩ | ⟨h9, hl, hk⟩ | ⟨h7, h8, h9, hk⟩
    · have HT : Hid ((Tree.node s (p :: ps)).nrm false = false) := by show _ = _; rw [nrm_let _ hne h7]; rfl
      have e7 : (p.atom.toList == [108, 101, 116]) = true := by rw [Lib.toList_data]; rw [h7]; rfl
      have e8 : (p.atom.toList == [102, 117, 110]) = false := by rw [Lib.toList_data]; rw [h7]; rfl
      have e9 : (p.atom.toList == [105, 102]) = false := by rw [Lib.toList_data]; rw [h7]; rfl
      clear h7 hl hk HPP HKX HQ HK
      go_enter Try.func83, Try.ntmps83
      go_wp2
      go_ret
      exact ⟨ret_bool HT.out.symm, hB0⟩
    · obtain ⟨q5, hq5⟩ : ∃ q, (p :: ps)[5]? = some q := ⟨(p :: ps)[5]'(by simp only [List.length_cons]; omega), by simp⟩
      have HT : Hid ((Tree.node s (p :: ps)).nrm false = q5.nrm true) := by show _ = _; rw [nrm_fun _ hne h8]; show Tree.nrm true (nth (p :: ps) 5) = _; rw [nth_of hq5]
      have e7 : (p.atom.toList == [108, 101, 116]) = false := by rw [Lib.toList_data]; rw [h8]; rfl
      have e8 : (p.atom.toList == [102, 117, 110]) = true := by rw [Lib.toList_data]; rw [h8]; rfl
      have e9 : (p.atom.toList == [105, 102]) = false := by rw [Lib.toList_data]; rw [h8]; rfl
      have hlq : 6 ≤ ps.length + 1 := by omega
      have HQ5 := Lib.hid (HQ.out 5 q5 (by omega) hq5)
      have Hq5 := Lib.hid hq5
      generalize q5.nrm true = ans at *
      clear h8 hl hk HPP HKX HQ HK hq5
      go_enter Try.func83, Try.ntmps83
      obtain ⟨o5, n5, c5, ca5, cb5, r5⟩ := (HRC.out _ hB0).nth 5 (p := q5) (k := off + 10) Hq5.out rfl
      go_wp2_with fail
      refine (HQ5.out _ _ r5).mono ?_
      rintro e w2 ⟨rfl, hb2⟩
      have B2 := Below.next B0 hb2
      obtain ⟨x2, y2, hB2, hl2⟩ := boxed B2
      go_wp2
      go_ret
      exact ⟨ret_bool HT.out.symm, hB2⟩
    · have hget : ∀ i, i < 4 → ∃ q, (p :: ps)[i]? = some q := fun i hi => ⟨(p :: ps)[i]'(by simp only [List.length_cons]; omega), by simp⟩
      obtain ⟨q1, hq1⟩ := hget 1 (by omega)
      obtain ⟨q2, hq2⟩ := hget 2 (by omega)
      obtain ⟨q3, hq3⟩ := hget 3 (by omega)
      have HT : Hid ((Tree.node s (p :: ps)).nrm false = (q1.leafB && q2.nrm true && q3.nrm true)) := by
        show _ = _; rw [nrm_if _ hne h9]; show ((nth (p :: ps) 1).leafB && Tree.nrm true (nth (p :: ps) 2) && Tree.nrm true (nth (p :: ps) 3)) = _; rw [nth_of hq1, nth_of hq2, nth_of hq3]
      have e7 : (p.atom.toList == [108, 101, 116]) = false := by rw [Lib.toList_data]; rw [h9]; rfl
      have e8 : (p.atom.toList == [102, 117, 110]) = false := by rw [Lib.toList_data]; rw [h9]; rfl
      have e9 : (p.atom.toList == [105, 102]) = true := by rw [Lib.toList_data]; rw [h9]; rfl
      have hlq : 4 ≤ ps.length + 1 := by omega
      have HQ2 := Lib.hid (HQ.out 2 q2 (by omega) hq2)
      have HQ3 := Lib.hid (HQ.out 3 q3 (by omega) hq3)
      have Hq1 := Lib.hid hq1
      have Hq2 := Lib.hid hq2
      have Hq3 := Lib.hid hq3
      have hg1 := (HPP.out 1 q1 hq1).2.2.2
      have hy := leafB_yes hg1
      have hno := leafB_no hg1
      generalize q2.nrm true = b2 at *
      generalize q3.nrm true = b3 at *
      generalize q1.leafB = b1 at *
      clear h9 hl hk HPP HKX HQ HK hq1 hq2 hq3 hg1 hget
      cases b1
      · have hn := hno rfl
        have hn1 : q1.atom.toList.isEmpty = true := by rw [Lib.toList_data, hn]; rfl
        have hn2 : (q1.atom.toList == []) = true := by rw [Lib.toList_data, hn]; rfl
        clear hy hno hn
        go_enter Try.func83, Try.ntmps83
        obtain ⟨o1, n1, c1, ca1, cb1, r1⟩ := (HRC.out _ hB0).nth 1 (p := q1) (k := off + 2) Hq1.out rfl
        go_wp2
        go_ret
        exact ⟨ret_bool (by rw [HT.out]; rfl), hB0⟩
      · have hn := hy rfl
        have hn1 : q1.atom.toList.isEmpty = false := by rw [Lib.toList_data]; simpa using hn
        have hn2 : (q1.atom.toList == []) = false := by rw [Lib.toList_data]; simpa using hn
        clear hy hno hn
        go_enter Try.func83, Try.ntmps83
        obtain ⟨o1, n1, c1, ca1, cb1, r1⟩ := (HRC.out _ hB0).nth 1 (p := q1) (k := off + 2) Hq1.out rfl
        obtain ⟨o2, n2, c2, ca2, cb2, r2⟩ := (HRC.out _ hB0).nth 2 (p := q2) (k := off + 4) Hq2.out rfl
        go_wp2_with fail
        refine (HQ2.out _ _ r2).mono ?_
        rintro e w3 ⟨rfl, hb3⟩
        have B3 := Below.next B0 hb3
        obtain ⟨x3, y3, hB3, hl3⟩ := boxed B3
        cases b2
        · go_wp2
          go_ret
          exact ⟨ret_bool (by rw [HT.out]; rfl), hB3⟩
        · obtain ⟨o3, n3, c3, ca3, cb3, r3⟩ := (HRC.out _ hB3).nth 3 (p := q3) (k := off + 6) Hq3.out rfl
          go_wp2_with fail
          refine (HQ3.out _ _ r3).mono ?_
          rintro e w4 ⟨rfl, hb4⟩
          have B4 := Below.next B3 hb4
          obtain ⟨x4, y4, hB4, hl4⟩ := boxed B4
          go_wp2
          go_ret
          exact ⟨ret_bool (by rw [HT.out]; rfl), hB4⟩
    · have HT : Hid ((Tree.node s (p :: ps)).nrm false = ps.all Tree.leafB) := by show _ = _; rw [nrm_rest _ hne h7 h8 h9]; rfl
      have e7 : (p.atom.toList == [108, 101, 116]) = false := by rw [Lib.toList_data]; simpa using h7
      have e8 : (p.atom.toList == [102, 117, 110]) = false := by rw [Lib.toList_data]; simpa using h8
      have e9 : (p.atom.toList == [105, 102]) = false := by rw [Lib.toList_data]; simpa using h9
      clear h7 h8 h9 hk HKX HQ HK
      go_enter Try.func83, Try.ntmps83
      go_wp2
      go_loopw [4] (fun iv wr => ∃ i : Nat, 1 ≤ i ∧ i ≤ ps.length + 1 ∧ iv = .int .i64 i ∧ Hid (∀ (j : Nat) (q : Tree), j + 1 < i → ps[j]? = some q → q.leafB = true) ∧ (w.alloc (.cells #[.string s, .slice (some ⟨b, off, none⟩) (ps.length + 1) c] 40)) = wr) (fun iv _ => ps.length + 1 - (intOf iv).toNat)
      case atStart => exact ⟨1, Nat.le_refl _, by omega, rfl, fun j q h => by omega, rfl⟩
      case round =>
        obtain ⟨i, hi1, hi, rfl, HI, rfl⟩ := hrel
        by_cases hlt : i < ps.length + 1
        · obtain ⟨q, hq⟩ : ∃ q, (p :: ps)[i]? = some q := ⟨(p :: ps)[i]'(by simpa using hlt), by simp⟩
          obtain ⟨o', n', c', hx, hy, hrp⟩ := (HRC.out _ hB0).nth i (p := q) (k := off + i * 2) hq rfl
          have hg1 := (HPP.out i q hq).2.2.2
          have hyes := leafB_yes hg1
          have hno := leafB_no hg1
          have HN : Hid (ps[i - 1]? = some q) := by
            show _ = _
            rw [show i = (i - 1) + 1 from by omega] at hq
            simpa using hq
          clear hq hg1
          cases hql : q.leafB
          · have hn := hno hql
            have hn1 : q.atom.toList.isEmpty = true := by rw [Lib.toList_data, hn]; rfl
            have hn2 : (q.atom.toList == []) = true := by rw [Lib.toList_data, hn]; rfl
            have HF := Lib.hid (leaf_all_no HN.out hql)
            clear hyes hno hn hql
            go_wp2
            go_ret
            exact ⟨ret_bool (by rw [HT.out, HF.out]), hB0⟩
          · have hn := hyes hql
            have hn1 : q.atom.toList.isEmpty = false := by rw [Lib.toList_data]; simpa using hn
            have hn2 : (q.atom.toList == []) = false := by rw [Lib.toList_data]; simpa using hn
            have HZ := Lib.hid hql
            clear hyes hno hn hql
            go_wp2
            go_roundw
            case rel => exact ⟨i + 1, by omega, by omega, by go_num, fun j q' h1 hq' => by
              by_cases h : j = i - 1
              · subst h; rw [HN.out] at hq'; cases hq'; exact HZ.out
              · exact HI.out j q' (by omega) hq', (by first | rfl | trivial)⟩
            case measure => simp [intOf]; omega
        · have HF := Lib.hid (leaf_all_yes (ps := ps) fun j q hq => HI.out j q (by have := (List.getElem?_eq_some_iff.1 hq).1; omega) hq)
          go_wp2
          go_ret
          exact ⟨ret_bool (by rw [HT.out, HF.out]), hB0⟩

set_option maxRecDepth 100000 in
set_option maxHeartbeats 3200000 in
theorem isSimple_step (n : Nat) (HN : ∀ (t : Tree) (A : Nat → Prop) (v : Value) (w : World), t.sz ≤ n → Rep w A t v → t.sz ≤ 24000 → t.text.length ≤ 12000 → t.good = true → t.isExpr = true →
    Calls Try.prog 57 #[v] w fun e w' => e = .returned (.bool (t.nrm true)) ∧ Below w.heap.size w w') :
    ∀ (t : Tree) (A : Nat → Prop) (v : Value) (w : World), t.sz ≤ n + 1 → Rep w A t v → t.sz ≤ 24000 → t.text.length ≤ 12000 → t.good = true → t.isExpr = true →
    Calls Try.prog 84 #[v] w fun e w' => e = .returned (.bool (t.nrm false)) ∧ Below w.heap.size w w' := by
  intro t A v w hn hr hb htx hgood hexp
  have hln : t.parts.length ≤ 1000000000 := by cases t with | node a ps => have := Tree.length_le_szL ps; simp only [Tree.sz, Tree.parts] at *; omega
  have HHD := Lib.hid (fun v w hr => head_any t A v w hr hln)
  have HKI := Lib.hid (fun v w hr => kids_any t A v w hr hln)
  obtain ⟨s, ps⟩ := t
  have hr' := hr
  simp only [Rep] at hr
  obtain ⟨o, l, c, rfl, hs, hcap⟩ := hr
  obtain rfl := hs.len
  obtain ⟨hgl, hge⟩ := Tree.good_parts hgood
  cases ps with
  | nil =>
    have B0 := boxed0 w (.string s) (.slice o 0 c) 46
    obtain ⟨x0, y0, hB0, hl0⟩ := boxed B0
    have HT : Hid ((Tree.node s []).nrm false = true) := nrm_leaf _ _
    have HR : Hid (∀ W, Below w.heap.size w W → Rep W A (.node s []) (.agg #[.string s, .slice o 0 c])) := fun W h => Rep.keep (Keeps.below h) _ _ hr'
    have HHD' : Hid (∀ v w, Rep w A (.node s []) v → Calls Try.prog 32 #[v] w fun e w' => e = .returned (.string ⟨#[]⟩) ∧ Below w.heap.size w w') := HHD.out
    clear hge hgl hgood hs hexp HN hr' HHD HKI
    go_enter Try.func84, Try.ntmps84
    go_wp2_with fail
    refine (HHD'.out _ _ (HR.out _ hB0)).mono ?_
    rintro e w1 ⟨rfl, hb1⟩
    have B1 := Below.next B0 hb1; obtain ⟨x1, y1, hB1, hl1⟩ := boxed B1; clear hb1
    go_wp2
    go_ret
    exact ⟨ret_bool HT.out.symm, hB1⟩
  | cons p ps =>
    have hse : s.data.toList = [] := Classical.byContradiction fun h => absurd (hge.2 h) (by simp)
    have hemp : s.toList.isEmpty = true := by rw [Lib.toList_data, hse]; rfl
    have hemp2 : (s.toList == []) = true := by rw [Lib.toList_data, hse]; rfl
    have hne : (Tree.node s (p :: ps)).parts ≠ [] := by simp [Tree.parts]
    obtain ⟨b, off, rfl, hA, hc⟩ := hs.uncons
    obtain ⟨k, hk, hk2, hk1, hkn, -, hkx⟩ := expr_cases hexp
    have hpp : ∀ (i : Nat) (q : Tree), (p :: ps)[i]? = some q → q.sz ≤ n ∧ q.sz ≤ 24000 ∧ q.text.length ≤ 12000 ∧ q.good = true := fun i q hq => by
      have h1 := Tree.sz_part _ _ _ hq
      have h2 := text_part_le (a := s) (List.mem_of_getElem? hq)
      simp only [Tree.sz] at hn hb
      exact ⟨by omega, by omega, by omega, Tree.good_part _ _ _ hq hgl⟩
    have hll := Tree.length_le_szL (p :: ps)
    have HHS := expr_heads hexp
    rw [hk] at HHS
    have B0 := boxed0 w (.string s) (.slice (some ⟨b, off, none⟩) (ps.length + 1) c) 46
    obtain ⟨x0, y0, hB0, hl0⟩ := boxed B0
    simp only [List.length_cons] at hcap hll
    have HRC : Hid (∀ W, Below w.heap.size w W → RepC W A (p :: ps) b off) := fun W h => RepC.keep (Keeps.below h) hA _ _ hc
    have HQ := Lib.hid (fun (i : Nat) (q : Tree) (hi : k ≤ i) (hq : (p :: ps)[i]? = some q) v w' hr => HN q A v w' (hpp i q hq).1 hr (hpp i q hq).2.1 (hpp i q hq).2.2.1 (hpp i q hq).2.2.2 (hkx i q hi hq))
    have HPP := Lib.hid hpp
    have HKX := Lib.hid hkx
    obtain ⟨o0, n0, c0, ca0, cb0, r0⟩ := (HRC.out _ hB0).nth 0 (k := off) rfl rfl
    have hpe : p.atom.data.toList ≠ [] := kidAt_ne (by rw [hk]; omega)
    have hpe1 : p.atom.toList.isEmpty = false := by rw [Lib.toList_data]; simpa using hpe
    have hpe2 : (p.atom.toList == []) = false := by rw [Lib.toList_data]; simpa using hpe
    have hlN : ps.length + 1 ≤ 24000 := by simp only [Tree.sz] at hb; omega
    have HK := Lib.hid hk
    have HR : Hid (∀ W, Below w.heap.size w W → Rep W A (.node s (p :: ps)) (.agg #[.string s, .slice (some ⟨b, off, none⟩) (ps.length + 1) c])) := fun W h => Rep.keep (Keeps.below h) _ _ hr'
    have HHD' : Hid (∀ v w, Rep w A (.node s (p :: ps)) v → Calls Try.prog 32 #[v] w fun e w' => e = .returned (.string p.atom) ∧ Below w.heap.size w w') := HHD.out
    have HKI' : Hid (∀ v w, Rep w A (.node s (p :: ps)) v → Calls Try.prog 64 #[v] w (KidsR (kidsOf p.atom.data.toList (ps.length + 1)) w)) := HKI.out
    have HBA := Lib.hid (fun (i : Nat) (q : Tree) (hi : k ≤ i) (hq : (p :: ps)[i]? = some q) v w' hr => isBare_any q A v w' hr (by have h1 := atom_leI (hpp i q hq).2.2.2; have h2 := (hpp i q hq).2.2.1; omega))
    have HBL : Hid (∀ (i : Nat) (q : Tree), k ≤ i → (p :: ps)[i]? = some q → (q.parts.isEmpty && bareB q.atom.data.toList) = q.leafB) := fun i q hi hq => bare_leaf (hpp i q hq).2.2.2 (hkx i q hi hq)
    clear HHD HKI
    clear hc hs hse hge hgood hgl HN hexp hkx hpp hk2 hk hb hn hpe hr' htx
    rcases HHS with ⟨h7, hl, hk⟩ | ⟨h8, hl, hk⟩ | ⟨h9, hl, hk⟩ | ⟨h7, h8, h9, hk⟩
    · have HT : Hid ((Tree.node s (p :: ps)).nrm false = false) := by show _ = _; rw [nrm_let _ hne h7]; rfl
      have e7 : (p.atom.toList == [108, 101, 116]) = true := by rw [Lib.toList_data]; rw [h7]; rfl
      have e8 : (p.atom.toList == [102, 117, 110]) = false := by rw [Lib.toList_data]; rw [h7]; rfl
      have e9 : (p.atom.toList == [105, 102]) = false := by rw [Lib.toList_data]; rw [h7]; rfl
      clear h7 hl hk HPP HKX HQ HK
      go_enter Try.func84, Try.ntmps84
      go_wp2_with fail
      refine (HHD'.out _ _ (HR.out _ hB0)).mono ?_
      rintro e w1 ⟨rfl, hb1⟩
      have B1 := Below.next B0 hb1; obtain ⟨x1, y1, hB1, hl1⟩ := boxed B1; clear hb1
      go_wp2
      go_ret
      exact ⟨ret_bool HT.out.symm, hB1⟩
    · obtain ⟨q5, hq5⟩ : ∃ q, (p :: ps)[5]? = some q := ⟨(p :: ps)[5]'(by simp only [List.length_cons]; omega), by simp⟩
      have HT : Hid ((Tree.node s (p :: ps)).nrm false = q5.nrm true) := by show _ = _; rw [nrm_fun _ hne h8]; show Tree.nrm true (nth (p :: ps) 5) = _; rw [nth_of hq5]
      have e7 : (p.atom.toList == [108, 101, 116]) = false := by rw [Lib.toList_data]; rw [h8]; rfl
      have e8 : (p.atom.toList == [102, 117, 110]) = true := by rw [Lib.toList_data]; rw [h8]; rfl
      have e9 : (p.atom.toList == [105, 102]) = false := by rw [Lib.toList_data]; rw [h8]; rfl
      have hlq : 6 ≤ ps.length + 1 := by omega
      have HQ5 := Lib.hid (HQ.out 5 q5 (by omega) hq5)
      have Hq5 := Lib.hid hq5
      generalize q5.nrm true = ans at *
      clear h8 hl hk HPP HKX HQ HK hq5
      go_enter Try.func84, Try.ntmps84
      go_wp2_with fail
      refine (HHD'.out _ _ (HR.out _ hB0)).mono ?_
      rintro e w1 ⟨rfl, hb1⟩
      have B1 := Below.next B0 hb1; obtain ⟨x1, y1, hB1, hl1⟩ := boxed B1; clear hb1
      obtain ⟨o5, n5, c5, ca5, cb5, r5⟩ := (HRC.out _ hB1).nth 5 (p := q5) (k := off + 10) Hq5.out rfl
      go_wp2_with fail
      refine (HQ5.out _ _ r5).mono ?_
      rintro e w2 ⟨rfl, hb2⟩
      have B2 := Below.next B1 hb2
      obtain ⟨x2, y2, hB2, hl2⟩ := boxed B2
      go_wp2
      go_ret
      exact ⟨ret_bool HT.out.symm, hB2⟩
    · have hget : ∀ i, i < 4 → ∃ q, (p :: ps)[i]? = some q := fun i hi => ⟨(p :: ps)[i]'(by simp only [List.length_cons]; omega), by simp⟩
      obtain ⟨q1, hq1⟩ := hget 1 (by omega)
      obtain ⟨q2, hq2⟩ := hget 2 (by omega)
      obtain ⟨q3, hq3⟩ := hget 3 (by omega)
      have HT : Hid ((Tree.node s (p :: ps)).nrm false = (q1.leafB && q2.nrm true && q3.nrm true)) := by
        show _ = _; rw [nrm_if _ hne h9]; show ((nth (p :: ps) 1).leafB && Tree.nrm true (nth (p :: ps) 2) && Tree.nrm true (nth (p :: ps) 3)) = _; rw [nth_of hq1, nth_of hq2, nth_of hq3]
      have e7 : (p.atom.toList == [108, 101, 116]) = false := by rw [Lib.toList_data]; rw [h9]; rfl
      have e8 : (p.atom.toList == [102, 117, 110]) = false := by rw [Lib.toList_data]; rw [h9]; rfl
      have e9 : (p.atom.toList == [105, 102]) = true := by rw [Lib.toList_data]; rw [h9]; rfl
      have hlq : 4 ≤ ps.length + 1 := by omega
      have HQ2 := Lib.hid (HQ.out 2 q2 (by omega) hq2)
      have HQ3 := Lib.hid (HQ.out 3 q3 (by omega) hq3)
      have HB1 : Hid (∀ v w, Rep w A q1 v → Calls Try.prog 103 #[v] w fun e w' => e = .returned (.bool q1.leafB) ∧ Below w.heap.size w w') := by intro v w hr; have := HBA.out 1 q1 (by omega) hq1 v w hr; rwa [HBL.out 1 q1 (by omega) hq1] at this
      have Hq1 := Lib.hid hq1
      have Hq2 := Lib.hid hq2
      have Hq3 := Lib.hid hq3
      have hg1 := (HPP.out 1 q1 hq1).2.2.2
      have hy := leafB_yes hg1
      have hno := leafB_no hg1
      generalize q2.nrm true = b2 at *
      generalize q3.nrm true = b3 at *
      generalize q1.leafB = b1 at *
      clear h9 hl hk HPP HKX HQ HK hq1 hq2 hq3 hg1 hget
      cases b1
      · have hn := hno rfl
        have hn1 : q1.atom.toList.isEmpty = true := by rw [Lib.toList_data, hn]; rfl
        have hn2 : (q1.atom.toList == []) = true := by rw [Lib.toList_data, hn]; rfl
        clear hy hno hn
        go_enter Try.func84, Try.ntmps84
        go_wp2_with fail
        refine (HHD'.out _ _ (HR.out _ hB0)).mono ?_
        rintro e w1 ⟨rfl, hb1⟩
        have B1 := Below.next B0 hb1; obtain ⟨x1, y1, hB1, hl1⟩ := boxed B1; clear hb1
        obtain ⟨o1, n1, c1, ca1, cb1, r1⟩ := (HRC.out _ hB1).nth 1 (p := q1) (k := off + 2) Hq1.out rfl
        go_wp2_with fail
        refine (HB1.out _ _ r1).mono ?_
        rintro e w2 ⟨rfl, hb2⟩
        have B2 := Below.next B1 hb2; obtain ⟨x2, y2, hB2, hl2⟩ := boxed B2; clear hb2
        go_wp2
        go_ret
        exact ⟨ret_bool (by rw [HT.out]; rfl), hB2⟩
      · have hn := hy rfl
        have hn1 : q1.atom.toList.isEmpty = false := by rw [Lib.toList_data]; simpa using hn
        have hn2 : (q1.atom.toList == []) = false := by rw [Lib.toList_data]; simpa using hn
        clear hy hno hn
        go_enter Try.func84, Try.ntmps84
        go_wp2_with fail
        refine (HHD'.out _ _ (HR.out _ hB0)).mono ?_
        rintro e w1 ⟨rfl, hb1⟩
        have B1 := Below.next B0 hb1; obtain ⟨x1, y1, hB1, hl1⟩ := boxed B1; clear hb1
        obtain ⟨o1, n1, c1, ca1, cb1, r1⟩ := (HRC.out _ hB1).nth 1 (p := q1) (k := off + 2) Hq1.out rfl
        go_wp2_with fail
        refine (HB1.out _ _ r1).mono ?_
        rintro e w2 ⟨rfl, hb2⟩
        have B2 := Below.next B1 hb2; obtain ⟨x2, y2, hB2, hl2⟩ := boxed B2; clear hb2
        obtain ⟨o2, n2, c2, ca2, cb2, r2⟩ := (HRC.out _ hB2).nth 2 (p := q2) (k := off + 4) Hq2.out rfl
        go_wp2_with fail
        refine (HQ2.out _ _ r2).mono ?_
        rintro e w3 ⟨rfl, hb3⟩
        have B3 := Below.next B2 hb3
        obtain ⟨x3, y3, hB3, hl3⟩ := boxed B3
        cases b2
        · go_wp2
          go_ret
          exact ⟨ret_bool (by rw [HT.out]; rfl), hB3⟩
        · obtain ⟨o3, n3, c3, ca3, cb3, r3⟩ := (HRC.out _ hB3).nth 3 (p := q3) (k := off + 6) Hq3.out rfl
          go_wp2_with fail
          refine (HQ3.out _ _ r3).mono ?_
          rintro e w4 ⟨rfl, hb4⟩
          have B4 := Below.next B3 hb4
          obtain ⟨x4, y4, hB4, hl4⟩ := boxed B4
          go_wp2
          go_ret
          exact ⟨ret_bool (by rw [HT.out]; rfl), hB4⟩
    · have HT : Hid ((Tree.node s (p :: ps)).nrm false = ps.all Tree.leafB) := by show _ = _; rw [nrm_rest _ hne h7 h8 h9]; rfl
      have e7 : (p.atom.toList == [108, 101, 116]) = false := by rw [Lib.toList_data]; simpa using h7
      have e8 : (p.atom.toList == [102, 117, 110]) = false := by rw [Lib.toList_data]; simpa using h8
      have e9 : (p.atom.toList == [105, 102]) = false := by rw [Lib.toList_data]; simpa using h9
      have hkl := kidsOf_length p.atom.data.toList (ps.length + 1) (by rw [HK.out]; omega)
      have hkg := kidsOf_get p.atom.data.toList (ps.length + 1) (by rw [HK.out]; omega)
      rw [HK.out, hk] at hkl hkg
      have HB1 : Hid (∀ (i : Nat) (q : Tree), 1 ≤ i → (p :: ps)[i]? = some q → ∀ v w, Rep w A q v → Calls Try.prog 103 #[v] w fun e w' => e = .returned (.bool q.leafB) ∧ Below w.heap.size w w') := by intro i q hi hq v w hr; have := HBA.out i q (by omega) hq v w hr; rwa [HBL.out i q (by omega) hq] at this
      generalize kidsOf p.atom.data.toList (ps.length + 1) = ks at *
      have hlk : 0 < ks.length := by omega
      have hlk2 : ks.length ≤ ps.length + 1 := by omega
      have HKL := Lib.hid hkl
      have HKG := Lib.hid hkg
      clear h7 h8 h9 hk HKX HQ HK hkl hkg HBA HBL HPP
      go_enter Try.func84, Try.ntmps84
      go_wp2_with fail
      refine (HHD'.out _ _ (HR.out _ hB0)).mono ?_
      rintro e w1 ⟨rfl, hb1⟩
      have B1 := Below.next B0 hb1; obtain ⟨x1, y1, hB1, hl1⟩ := boxed B1; clear hb1
      go_wp2_with fail
      refine (HKI'.out _ _ (HR.out _ hB1)).mono ?_
      rintro e w2 ⟨hb2, hks⟩
      have B2 := Below.next B1 hb2; obtain ⟨x2, y2, hB2, hl2⟩ := boxed B2; clear hb2
      rcases hks with ⟨h, rfl⟩ | ⟨-, bk, ck, rfl, hbk, hck, hkc⟩
      · exact absurd h (by intro h; rw [h] at hlk; simp at hlk)
      have hbk1 : bk < w2.heap.size := by
        obtain ⟨q, hq⟩ : ∃ q, ks[0]? = some q := ⟨ks[0]'hlk, by simp⟩
        exact lt_of_cell (hkc 0 q hq)
      have HKC := Lib.hid hkc
      clear hkc hbk
      go_wp2
      go_loopw [42] (fun iv wr => ∃ m : Nat, m ≤ ks.length ∧ iv = .int .i64 m ∧ Hid (∀ (j : Nat) (q : Tree), j < m → ps[j]? = some q → q.leafB = true) ∧ Below w2.heap.size w2 wr) (fun iv _ => ks.length - (intOf iv).toNat)
      case atStart => exact ⟨0, Nat.zero_le _, rfl, fun j q h => by omega, Below.refl _ _⟩
      case round =>
        obtain ⟨m, hm, rfl, HI, hbr⟩ := hrel
        have B3 := Below.next B2 hbr
        obtain ⟨x3, y3, hB3, hl3⟩ := boxed B3
        by_cases hlt : m < ks.length
        · obtain ⟨i, HJ, hi⟩ : ∃ i, Hid (i = 1 + m) ∧ i < ps.length + 1 := ⟨1 + m, rfl, by have := HKL.out; omega⟩
          have hcell : wr.cell? ⟨bk, m, none⟩ = some (.int .i64 (i : Int)) := by
            have h1 := HKC.out m (1 + m) (HKG.out m (by have := HKL.out; omega))
            rw [HJ.out]
            exact (hbr.cell hbk1).trans h1
          obtain ⟨q, hq⟩ : ∃ q, (p :: ps)[i]? = some q := ⟨(p :: ps)[i]'(by simpa using hi), by simp⟩
          obtain ⟨o', n', c', hx, hy, hrp⟩ := (HRC.out _ hB3).nth i (p := q) (k := off + i * 2) hq rfl
          have HCl := Lib.hid (HB1.out i q (by have := HJ.out; omega) hq _ wr hrp)
          have HN : Hid (ps[m]? = some q) := by
            show _ = _
            rw [HJ.out, show 1 + m = m + 1 from by omega] at hq
            simpa using hq
          clear hq
          go_wp2_with fail
          refine HCl.out.mono ?_
          rintro e wq ⟨rfl, hbq⟩
          have hbr2 := hbr.trans (hbq.mono hbr.size)
          cases hql : q.leafB
          · have HF := Lib.hid (leaf_all_no HN.out hql)
            clear hql HCl
            go_wp2
            go_ret
            exact ⟨ret_bool (by rw [HT.out, HF.out]), (boxed (Below.next B2 hbr2)).2.2.1⟩
          · have HZ := Lib.hid hql
            clear hql HCl
            go_wp2
            go_roundw
            case rel => exact ⟨m + 1, by omega, by go_num, fun j q' h1 hq' => by
              by_cases h : j = m
              · subst h; rw [HN.out] at hq'; cases hq'; exact HZ.out
              · exact HI.out j q' (by omega) hq', hbr2⟩
            case measure => simp [intOf]; omega
        · have HF := Lib.hid (leaf_all_yes (ps := ps) fun j q hq => HI.out j q (by have := (List.getElem?_eq_some_iff.1 hq).1; have := HKL.out; omega) hq)
          go_wp2
          go_ret
          exact ⟨ret_bool (by rw [HT.out, HF.out]), hB3⟩

set_option maxRecDepth 100000 in
set_option maxHeartbeats 3200000 in
theorem l5Normal_step (n : Nat) (HS : ∀ (t : Tree) (A : Nat → Prop) (v : Value) (w : World), t.sz ≤ n → Rep w A t v → t.sz ≤ 24000 → t.text.length ≤ 12000 → t.good = true → t.isExpr = true →
    Calls Try.prog 83 #[v] w fun e w' => e = .returned (.bool (t.nrm false)) ∧ Below w.heap.size w w') :
    ∀ (t : Tree) (A : Nat → Prop) (v : Value) (w : World), t.sz ≤ n → Rep w A t v → t.sz ≤ 24000 → t.text.length ≤ 12000 → t.good = true → t.isExpr = true →
    Calls Try.prog 56 #[v] w fun e w' => e = .returned (.bool (t.nrm true)) ∧ Below w.heap.size w w' := by
  intro t A v w hn hr hb htx hgood hexp
  have hr0 := Rep.bound _ _ hr
  obtain ⟨s, ps⟩ := t
  simp only [Rep] at hr
  obtain ⟨o, l, c, rfl, hs, hcap⟩ := hr
  have HHD : Hid (∀ (u : Tree) (A' : Nat → Prop) v W, Rep W A' u v → u.good = true → u.sz ≤ 24000 → Calls Try.prog 29 #[v] W fun e W' => e = .returned (.string u.hd) ∧ Below W.heap.size W W') := fun u A' v W hr hg hz => l4Head_any u A' v W hr hg
  have HSS := Lib.hid HS
  have hx0 := heap_alloc_new w (.cells #[.string s, .slice o l c] 40)
  have hr1 := Rep.keep (Keeps.alloc _ w (.cells #[.string s, .slice o l c] 40)) _ _ hr0
  have hB0 : Below w.heap.size w (w.alloc (.cells #[.string s, .slice o l c] 40)) := (Below.refl _ _).alloc (Nat.le_refl _) _
  generalize hans : (Tree.node s ps).nrm true = ans
  have H0 : Hid (∃ u : Tree, ∃ (a : ByteArray) (o' : Option Addr) (l' c' : Nat), u.sz ≤ (Tree.node s ps).sz ∧ Hid (u.sz ≤ n ∧ u.sz ≤ 24000 ∧ u.text.length ≤ 12000 ∧ u.good = true ∧ u.isExpr = true ∧ u.nrm true = ans) ∧
      Hid ((w.alloc (.cells #[.string s, .slice o l c] 40)).heap[w.heap.size]? = some (.cells #[.string a, .slice o' l' c'] 40 (0, 0))) ∧ Hid (Rep (w.alloc (.cells #[.string s, .slice o l c] 40)) (fun z => A z ∧ z < w.heap.size) u (.agg #[.string a, .slice o' l' c'])) ∧ Below w.heap.size w (w.alloc (.cells #[.string s, .slice o l c] 40))) :=
    ⟨.node s ps, s, o, l, c, Nat.le_refl _, ⟨hn, hb, htx, hgood, hexp, hans⟩, hx0, hr1, hB0⟩
  clear hs hr0 hr1 hx0 hgood hexp hans HS htx
  go_enter Try.func56, Try.ntmps56
  go_wp2_with fail
  go_loopg [3] (Tree.node s ps).sz (fun g _ wr => ∃ u : Tree, ∃ (a : ByteArray) (o' : Option Addr) (l' c' : Nat), u.sz ≤ g ∧ Hid (u.sz ≤ n ∧ u.sz ≤ 24000 ∧ u.text.length ≤ 12000 ∧ u.good = true ∧ u.isExpr = true ∧ u.nrm true = ans) ∧
      Hid (wr.heap[w.heap.size]? = some (.cells #[.string a, .slice o' l' c'] 40 (0, 0))) ∧ Hid (Rep wr (fun z => A z ∧ z < w.heap.size) u (.agg #[.string a, .slice o' l' c'])) ∧ Below w.heap.size w wr)
  case atStart => exact H0.out
  case round =>
    obtain ⟨u, a, o', l', c', hug, HU, HX, HR, hbr⟩ := hrel
    obtain ⟨x1, y1⟩ := box_cells HX.out
    have hl1 := (Array.getElem?_eq_some_iff.1 HX.out).1
    clear H0
    go_wp2_with fail
    refine (HHD.out u _ _ _ HR.out HU.out.2.2.2.1 HU.out.2.1).mono ?_
    rintro e w1 ⟨rfl, hb1⟩
    have HX1 := Lib.hid ((hb1.block _ hl1).trans HX.out)
    have HR1 := Lib.hid (Rep.keep (Keeps.below hb1) _ _ HR.out)
    have hB1 := hbr.trans (hb1.mono hbr.size)
    obtain ⟨x2, y2⟩ := box_cells HX1.out
    have hl2 := (Array.getElem?_eq_some_iff.1 HX1.out).1
    by_cases hlet : u.hd.data.toList = [108, 101, 116]
    · have e7 : (u.hd.toList == [108, 101, 116]) = true := by rw [Lib.toList_data, hlet]; rfl
      obtain ⟨hun, hub, hut, hug2, hue, hua⟩ := HU.out
      obtain ⟨a', qs⟩ := u
      cases qs with
      | nil => simp [Tree.hd] at hlet
      | cons p ps' =>
        have hhd : p.atom.data.toList = [108, 101, 116] := hlet
        obtain ⟨hk, hk4⟩ : kidAt p.atom.data.toList (ps'.length + 1) = 2 ∧ ps'.length + 1 = 4 := by
          rcases expr_heads hue with ⟨-, h2, h3⟩ | ⟨h1, -⟩ | ⟨h1, -⟩ | ⟨h1, -⟩
          · exact ⟨h3, h2⟩
          · rw [hhd] at h1; simp at h1
          · rw [hhd] at h1; simp at h1
          · exact absurd hhd h1
        obtain ⟨hgl, -⟩ := Tree.good_parts hug2
        obtain ⟨k, hkk, -, -, -, -, hkx⟩ := expr_cases hue
        have hget : ∀ i, i < 4 → ∃ q, (p :: ps')[i]? = some q := fun i hi => ⟨(p :: ps')[i]'(by simp only [List.length_cons]; omega), by simp⟩
        obtain ⟨q2, hq2⟩ := hget 2 (by omega)
        obtain ⟨q3, hq3⟩ := hget 3 (by omega)
        have hpp : ∀ (i : Nat) (q : Tree), 2 ≤ i → (p :: ps')[i]? = some q → q.sz < (Tree.node a' (p :: ps')).sz ∧ q.sz ≤ n ∧ q.sz ≤ 24000 ∧ q.text.length ≤ 12000 ∧ q.good = true ∧ q.isExpr = true := fun i q hi hq => by
          have h1 := Tree.part_sz (t := .node a' (p :: ps')) (List.mem_of_getElem? hq)
          have h2 := text_part_le (a := a') (List.mem_of_getElem? hq)
          exact ⟨h1, by omega, by omega, by omega, Tree.good_part _ _ _ hq hgl, hkx i q (by omega) hq⟩
        have HT : Hid (ans = (q2.nrm false && q3.nrm true)) := by
          show _ = _
          rw [← hua, nrm_let true (by simp [Tree.parts]) hlet]
          show (true && Tree.nrm false (nth (p :: ps') 2) && Tree.nrm true (nth (p :: ps') 3)) = _
          rw [nth_of hq2, nth_of hq3]; rfl
        have hR1 := HR1.out
        simp only [Rep] at hR1
        obtain ⟨o'', l'', c'', heq, hss, hcap'⟩ := hR1
        injection heq with heq
        obtain ⟨rfl, h2⟩ : a = a' ∧ Value.slice o' l' c' = .slice o'' l'' c'' := by
          have h := congrArg Array.toList heq
          simp only [List.cons.injEq, Value.string.injEq, and_true] at h
          exact h
        injection h2 with h2 h3 h4
        subst h2 h3 h4
        obtain rfl := hss.len
        obtain ⟨b, off, rfl, hA, hc⟩ := hss.uncons
        obtain ⟨o2, n2, c2, ca2, cb2, r2⟩ := hc.nth 2 (p := q2) (k := off + 4) hq2 rfl
        have HP2 := Lib.hid (hpp 2 q2 (by omega) hq2)
        have HP3 := Lib.hid (hpp 3 q3 (by omega) hq3)
        have HRC3 : Hid (∀ W, Below w1.heap.size w1 W → ∃ o3 n3 c3, W.cell? ⟨b, off + 6, none⟩ = some (.string q3.atom) ∧ W.cell? ⟨b, off + 6 + 1, none⟩ = some (.slice o3 n3 c3) ∧ Rep W (fun z => A z ∧ z < w.heap.size) q3 (.agg #[.string q3.atom, .slice o3 n3 c3])) := fun W h => (RepC.keep (Keeps.below h) hA _ _ hc).nth 3 (p := q3) (k := off + 6) hq3 rfl
        have hlq : 4 ≤ (p :: ps').length := by simp only [List.length_cons]; omega
        generalize (p :: ps').length = L at *
        generalize (Tree.node a (p :: ps')).sz = SZ at *
        clear hc hss heq hkx hget hq2 hq3 hpp hgl hk hk4 hkk hhd hlet hun hub hut hug2 hue hua HU HX HR HR1
        go_wp2_with fail
        refine (HSS.out q2 _ _ _ HP2.out.2.1 r2 HP2.out.2.2.1 HP2.out.2.2.2.1 HP2.out.2.2.2.2.1 HP2.out.2.2.2.2.2).mono ?_
        rintro e w2 ⟨rfl, hb2⟩
        have HX2 := Lib.hid ((hb2.block _ hl2).trans HX1.out)
        have hB2 := hB1.trans (hb2.mono hB1.size)
        obtain ⟨x3, y3⟩ := box_cells HX2.out
        have f3 := Lib.frozen_of_heap HX2.out 0
        have f4 := Lib.frozen_of_heap HX2.out 1
        have hl3 := (Array.getElem?_eq_some_iff.1 HX2.out).1
        obtain ⟨o3, n3, c3, ca3, cb3, r3⟩ := HRC3.out _ hb2
        cases hq2n : q2.nrm false
        · have HF : Hid (ans = false) := by show _ = _; rw [HT.out, hq2n]; rfl
          clear hq2n
          go_wp2
          go_ret
          exact ⟨ret_bool HF.out.symm, hB2⟩
        · have HF : Hid (q3.nrm true = ans) := by show _ = _; rw [HT.out, hq2n]; rfl
          have HR3 := Lib.hid r3
          clear hq2n HT r3
          go_wp2_with fail
          go_roundg q3.sz
          case measure => have := HP3.out.1; omega
          case rel =>
            refine ⟨q3, q3.atom, o3, n3, c3, Nat.le_refl _, ⟨HP3.out.2.1, HP3.out.2.2.1, HP3.out.2.2.2.1, HP3.out.2.2.2.2.1, HP3.out.2.2.2.2.2, HF.out⟩, Lib.hid (cells_set HX2.out _ _), Lib.hid ?_, (hB2.setCell (Nat.le_refl _) _).setCell (Nat.le_refl _) _⟩
            exact Rep.keep (((Keeps.refl _ _).setCell (fun z hz => Nat.ne_of_lt hz.2) _).setCell (fun z hz => Nat.ne_of_lt hz.2) _) _ _ HR3.out
    · have e7 : (u.hd.toList == [108, 101, 116]) = false := by rw [Lib.toList_data]; simpa using hlet
      have HT : Hid (u.nrm false = ans) := by show _ = _; rw [nrm_both hlet false true]; exact HU.out.2.2.2.2.2
      clear hlet
      go_wp2_with fail
      refine (HSS.out u _ _ _ HU.out.1 HR1.out HU.out.2.1 HU.out.2.2.1 HU.out.2.2.2.1 HU.out.2.2.2.2.1).mono ?_
      rintro e w2 ⟨rfl, hb2⟩
      have hB2 := hB1.trans (hb2.mono hB1.size)
      go_wp2
      go_ret
      exact ⟨ret_bool HT.out, hB2⟩

theorem l5Normal_all (n : Nat) : (∀ (t : Tree) (A : Nat → Prop) (v : Value) (w : World), t.sz ≤ n → Rep w A t v → t.sz ≤ 24000 → t.text.length ≤ 12000 → t.good = true → t.isExpr = true →
    Calls Try.prog 83 #[v] w fun e w' => e = .returned (.bool (t.nrm false)) ∧ Below w.heap.size w w') ∧
    (∀ (t : Tree) (A : Nat → Prop) (v : Value) (w : World), t.sz ≤ n → Rep w A t v → t.sz ≤ 24000 → t.text.length ≤ 12000 → t.good = true → t.isExpr = true →
    Calls Try.prog 56 #[v] w fun e w' => e = .returned (.bool (t.nrm true)) ∧ Below w.heap.size w w') := by
  induction n with
  | zero => exact ⟨fun t A v w h => by cases t; simp [Tree.sz] at h, fun t A v w h => by cases t; simp [Tree.sz] at h⟩
  | succ n ih =>
    have h1 := l5Simple_step n ih.2
    exact ⟨h1, l5Normal_step (n + 1) h1⟩

set_option maxRecDepth 100000 in
set_option maxHeartbeats 3200000 in
theorem isNormal_step (n : Nat) (HS : ∀ (t : Tree) (A : Nat → Prop) (v : Value) (w : World), t.sz ≤ n → Rep w A t v → t.sz ≤ 24000 → t.text.length ≤ 12000 → t.good = true → t.isExpr = true →
    Calls Try.prog 84 #[v] w fun e w' => e = .returned (.bool (t.nrm false)) ∧ Below w.heap.size w w') :
    ∀ (t : Tree) (A : Nat → Prop) (v : Value) (w : World), t.sz ≤ n → Rep w A t v → t.sz ≤ 24000 → t.text.length ≤ 12000 → t.good = true → t.isExpr = true →
    Calls Try.prog 57 #[v] w fun e w' => e = .returned (.bool (t.nrm true)) ∧ Below w.heap.size w w' := by
  intro t A v w hn hr hb htx hgood hexp
  have hr0 := Rep.bound _ _ hr
  obtain ⟨s, ps⟩ := t
  simp only [Rep] at hr
  obtain ⟨o, l, c, rfl, hs, hcap⟩ := hr
  have HHD : Hid (∀ (u : Tree) (A' : Nat → Prop) v W, Rep W A' u v → u.good = true → u.sz ≤ 24000 → Calls Try.prog 32 #[v] W fun e W' => e = .returned (.string u.hd) ∧ Below W.heap.size W W') := fun u A' v W hr hg hz => head_any u A' v W hr (by obtain ⟨a, ps⟩ := u; have := Tree.length_le_szL ps; simp only [Tree.sz, Tree.parts] at *; omega)
  have HSS := Lib.hid HS
  have hx0 := heap_alloc_new w (.cells #[.string s, .slice o l c] 46)
  have hr1 := Rep.keep (Keeps.alloc _ w (.cells #[.string s, .slice o l c] 46)) _ _ hr0
  have hB0 : Below w.heap.size w (w.alloc (.cells #[.string s, .slice o l c] 46)) := (Below.refl _ _).alloc (Nat.le_refl _) _
  generalize hans : (Tree.node s ps).nrm true = ans
  have H0 : Hid (∃ u : Tree, ∃ (a : ByteArray) (o' : Option Addr) (l' c' : Nat), u.sz ≤ (Tree.node s ps).sz ∧ Hid (u.sz ≤ n ∧ u.sz ≤ 24000 ∧ u.text.length ≤ 12000 ∧ u.good = true ∧ u.isExpr = true ∧ u.nrm true = ans) ∧
      Hid ((w.alloc (.cells #[.string s, .slice o l c] 46)).heap[w.heap.size]? = some (.cells #[.string a, .slice o' l' c'] 46 (0, 0))) ∧ Hid (Rep (w.alloc (.cells #[.string s, .slice o l c] 46)) (fun z => A z ∧ z < w.heap.size) u (.agg #[.string a, .slice o' l' c'])) ∧ Below w.heap.size w (w.alloc (.cells #[.string s, .slice o l c] 46))) :=
    ⟨.node s ps, s, o, l, c, Nat.le_refl _, ⟨hn, hb, htx, hgood, hexp, hans⟩, hx0, hr1, hB0⟩
  clear hs hr0 hr1 hx0 hgood hexp hans HS htx
  go_enter Try.func57, Try.ntmps57
  go_wp2_with fail
  go_loopg [3] (Tree.node s ps).sz (fun g _ wr => ∃ u : Tree, ∃ (a : ByteArray) (o' : Option Addr) (l' c' : Nat), u.sz ≤ g ∧ Hid (u.sz ≤ n ∧ u.sz ≤ 24000 ∧ u.text.length ≤ 12000 ∧ u.good = true ∧ u.isExpr = true ∧ u.nrm true = ans) ∧
      Hid (wr.heap[w.heap.size]? = some (.cells #[.string a, .slice o' l' c'] 46 (0, 0))) ∧ Hid (Rep wr (fun z => A z ∧ z < w.heap.size) u (.agg #[.string a, .slice o' l' c'])) ∧ Below w.heap.size w wr)
  case atStart => exact H0.out
  case round =>
    obtain ⟨u, a, o', l', c', hug, HU, HX, HR, hbr⟩ := hrel
    obtain ⟨x1, y1⟩ := box_cells HX.out
    have hl1 := (Array.getElem?_eq_some_iff.1 HX.out).1
    clear H0
    go_wp2_with fail
    refine (HHD.out u _ _ _ HR.out HU.out.2.2.2.1 HU.out.2.1).mono ?_
    rintro e w1 ⟨rfl, hb1⟩
    have HX1 := Lib.hid ((hb1.block _ hl1).trans HX.out)
    have HR1 := Lib.hid (Rep.keep (Keeps.below hb1) _ _ HR.out)
    have hB1 := hbr.trans (hb1.mono hbr.size)
    obtain ⟨x2, y2⟩ := box_cells HX1.out
    have hl2 := (Array.getElem?_eq_some_iff.1 HX1.out).1
    by_cases hlet : u.hd.data.toList = [108, 101, 116]
    · have e7 : (u.hd.toList == [108, 101, 116]) = true := by rw [Lib.toList_data, hlet]; rfl
      obtain ⟨hun, hub, hut, hug2, hue, hua⟩ := HU.out
      obtain ⟨a', qs⟩ := u
      cases qs with
      | nil => simp [Tree.hd] at hlet
      | cons p ps' =>
        have hhd : p.atom.data.toList = [108, 101, 116] := hlet
        obtain ⟨hk, hk4⟩ : kidAt p.atom.data.toList (ps'.length + 1) = 2 ∧ ps'.length + 1 = 4 := by
          rcases expr_heads hue with ⟨-, h2, h3⟩ | ⟨h1, -⟩ | ⟨h1, -⟩ | ⟨h1, -⟩
          · exact ⟨h3, h2⟩
          · rw [hhd] at h1; simp at h1
          · rw [hhd] at h1; simp at h1
          · exact absurd hhd h1
        obtain ⟨hgl, -⟩ := Tree.good_parts hug2
        obtain ⟨k, hkk, -, -, -, -, hkx⟩ := expr_cases hue
        have hget : ∀ i, i < 4 → ∃ q, (p :: ps')[i]? = some q := fun i hi => ⟨(p :: ps')[i]'(by simp only [List.length_cons]; omega), by simp⟩
        obtain ⟨q2, hq2⟩ := hget 2 (by omega)
        obtain ⟨q3, hq3⟩ := hget 3 (by omega)
        have hpp : ∀ (i : Nat) (q : Tree), 2 ≤ i → (p :: ps')[i]? = some q → q.sz < (Tree.node a' (p :: ps')).sz ∧ q.sz ≤ n ∧ q.sz ≤ 24000 ∧ q.text.length ≤ 12000 ∧ q.good = true ∧ q.isExpr = true := fun i q hi hq => by
          have h1 := Tree.part_sz (t := .node a' (p :: ps')) (List.mem_of_getElem? hq)
          have h2 := text_part_le (a := a') (List.mem_of_getElem? hq)
          exact ⟨h1, by omega, by omega, by omega, Tree.good_part _ _ _ hq hgl, hkx i q (by omega) hq⟩
        have HT : Hid (ans = (q2.nrm false && q3.nrm true)) := by
          show _ = _
          rw [← hua, nrm_let true (by simp [Tree.parts]) hlet]
          show (true && Tree.nrm false (nth (p :: ps') 2) && Tree.nrm true (nth (p :: ps') 3)) = _
          rw [nth_of hq2, nth_of hq3]; rfl
        have hR1 := HR1.out
        simp only [Rep] at hR1
        obtain ⟨o'', l'', c'', heq, hss, hcap'⟩ := hR1
        injection heq with heq
        obtain ⟨rfl, h2⟩ : a = a' ∧ Value.slice o' l' c' = .slice o'' l'' c'' := by
          have h := congrArg Array.toList heq
          simp only [List.cons.injEq, Value.string.injEq, and_true] at h
          exact h
        injection h2 with h2 h3 h4
        subst h2 h3 h4
        obtain rfl := hss.len
        obtain ⟨b, off, rfl, hA, hc⟩ := hss.uncons
        obtain ⟨o2, n2, c2, ca2, cb2, r2⟩ := hc.nth 2 (p := q2) (k := off + 4) hq2 rfl
        have HP2 := Lib.hid (hpp 2 q2 (by omega) hq2)
        have HP3 := Lib.hid (hpp 3 q3 (by omega) hq3)
        have HRC3 : Hid (∀ W, Below w1.heap.size w1 W → ∃ o3 n3 c3, W.cell? ⟨b, off + 6, none⟩ = some (.string q3.atom) ∧ W.cell? ⟨b, off + 6 + 1, none⟩ = some (.slice o3 n3 c3) ∧ Rep W (fun z => A z ∧ z < w.heap.size) q3 (.agg #[.string q3.atom, .slice o3 n3 c3])) := fun W h => (RepC.keep (Keeps.below h) hA _ _ hc).nth 3 (p := q3) (k := off + 6) hq3 rfl
        have hlq : 4 ≤ (p :: ps').length := by simp only [List.length_cons]; omega
        generalize (p :: ps').length = L at *
        generalize (Tree.node a (p :: ps')).sz = SZ at *
        clear hc hss heq hkx hget hq2 hq3 hpp hgl hk hk4 hkk hhd hlet hun hub hut hug2 hue hua HU HX HR HR1
        go_wp2_with fail
        refine (HSS.out q2 _ _ _ HP2.out.2.1 r2 HP2.out.2.2.1 HP2.out.2.2.2.1 HP2.out.2.2.2.2.1 HP2.out.2.2.2.2.2).mono ?_
        rintro e w2 ⟨rfl, hb2⟩
        have HX2 := Lib.hid ((hb2.block _ hl2).trans HX1.out)
        have hB2 := hB1.trans (hb2.mono hB1.size)
        obtain ⟨x3, y3⟩ := box_cells HX2.out
        have f3 := Lib.frozen_of_heap HX2.out 0
        have f4 := Lib.frozen_of_heap HX2.out 1
        have hl3 := (Array.getElem?_eq_some_iff.1 HX2.out).1
        obtain ⟨o3, n3, c3, ca3, cb3, r3⟩ := HRC3.out _ hb2
        cases hq2n : q2.nrm false
        · have HF : Hid (ans = false) := by show _ = _; rw [HT.out, hq2n]; rfl
          clear hq2n
          go_wp2
          go_ret
          exact ⟨ret_bool HF.out.symm, hB2⟩
        · have HF : Hid (q3.nrm true = ans) := by show _ = _; rw [HT.out, hq2n]; rfl
          have HR3 := Lib.hid r3
          clear hq2n HT r3
          go_wp2_with fail
          go_roundg q3.sz
          case measure => have := HP3.out.1; omega
          case rel =>
            refine ⟨q3, q3.atom, o3, n3, c3, Nat.le_refl _, ⟨HP3.out.2.1, HP3.out.2.2.1, HP3.out.2.2.2.1, HP3.out.2.2.2.2.1, HP3.out.2.2.2.2.2, HF.out⟩, Lib.hid (cells_set HX2.out _ _), Lib.hid ?_, (hB2.setCell (Nat.le_refl _) _).setCell (Nat.le_refl _) _⟩
            exact Rep.keep (((Keeps.refl _ _).setCell (fun z hz => Nat.ne_of_lt hz.2) _).setCell (fun z hz => Nat.ne_of_lt hz.2) _) _ _ HR3.out
    · have e7 : (u.hd.toList == [108, 101, 116]) = false := by rw [Lib.toList_data]; simpa using hlet
      have HT : Hid (u.nrm false = ans) := by show _ = _; rw [nrm_both hlet false true]; exact HU.out.2.2.2.2.2
      clear hlet
      go_wp2_with fail
      refine (HSS.out u _ _ _ HU.out.1 HR1.out HU.out.2.1 HU.out.2.2.1 HU.out.2.2.2.1 HU.out.2.2.2.2.1).mono ?_
      rintro e w2 ⟨rfl, hb2⟩
      have hB2 := hB1.trans (hb2.mono hB1.size)
      go_wp2
      go_ret
      exact ⟨ret_bool HT.out, hB2⟩

theorem isNormal_all (n : Nat) : (∀ (t : Tree) (A : Nat → Prop) (v : Value) (w : World), t.sz ≤ n → Rep w A t v → t.sz ≤ 24000 → t.text.length ≤ 12000 → t.good = true → t.isExpr = true →
    Calls Try.prog 84 #[v] w fun e w' => e = .returned (.bool (t.nrm false)) ∧ Below w.heap.size w w') ∧
    (∀ (t : Tree) (A : Nat → Prop) (v : Value) (w : World), t.sz ≤ n → Rep w A t v → t.sz ≤ 24000 → t.text.length ≤ 12000 → t.good = true → t.isExpr = true →
    Calls Try.prog 57 #[v] w fun e w' => e = .returned (.bool (t.nrm true)) ∧ Below w.heap.size w w') := by
  induction n with
  | zero => exact ⟨fun t A v w h => by cases t; simp [Tree.sz] at h, fun t A v w h => by cases t; simp [Tree.sz] at h⟩
  | succ n ih =>
    have h1 := isSimple_step n ih.2
    exact ⟨h1, isNormal_step (n + 1) h1⟩

/-- Is a text an expression of that kind? -/
def isOf (f : Tree → Bool) : Option Tree → Bool | some t => f t | none => false


set_option maxRecDepth 100000 in
set_option maxHeartbeats 800000 in
theorem sNormalIs_any (s : ByteArray) (w : World) (hs : s.size ≤ 1000000000) :
    Calls Try.prog 28 #[.string s] w fun e w' => e = .returned (.bool (isOf (Tree.nrm true) (pexpr s.data.toList))) ∧ Below w.heap.size w w' := by
  have HC := Lib.hid (fun W => l2Parse_any s W hs)
  go_enter Try.func28, Try.ntmps28
  go_wp2_with fail
  refine (HC.out _).mono ?_
  rintro e w1 ⟨a, o, l, c, ok, t, rfl, hb1, hr, hok, ht⟩
  cases hp : pexpr s.data.toList with
  | none =>
    rw [hp] at hok
    have hok' : ok = false := hok
    subst hok'
    have HP := Lib.hid hp
    clear hok ht hp
    go_wp2
    go_ret
    exact ⟨ret_bool (by rw [HP.out]; rfl), hb1.alloc hb1.size _⟩
  | some t' =>
    rw [hp] at hok
    have hok' : ok = true := hok
    subst hok'
    obtain rfl := ht _ hp
    obtain ⟨hg, hsz, htx, he, -⟩ := pexpr_facts hp
    have HP := Lib.hid hp
    clear hok ht hp
    have HM := Lib.hid ((l5Normal_all _).2 t _ _ (w1.alloc (.cells #[.string a, .slice o l c] 40)) (Nat.le_refl _) (Rep.keep (Keeps.alloc _ _ _) _ _ hr) hsz htx hg he)
    have hB1 : Below w.heap.size w (w1.alloc (.cells #[.string a, .slice o l c] 40)) := hb1.alloc hb1.size _
    clear hg hsz htx he
    go_wp2_with fail
    refine HM.out.mono ?_
    rintro e w2 ⟨rfl, hb2⟩
    go_wp2
    go_ret
    exact ⟨ret_bool (by rw [HP.out]; rfl), hB1.trans (hb2.mono hB1.size)⟩



end Go.Proofs.Ytoihkjnfklogpaa
