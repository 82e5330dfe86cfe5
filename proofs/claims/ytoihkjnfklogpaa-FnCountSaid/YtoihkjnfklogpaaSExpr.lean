/- Expressions: the reference's reader. -/
import Derived.Test.YtoihkjnfklogpaaKids
import Derived.Test.YtoihkjnfklogpaaName
import Derived.Test.YtoihkjnfklogpaaSType
import Derived.Test.YtoihkjnfklogpaaMake
import Derived.Deep.RegionHeld3
import Derived.Deep.QuietTactic
namespace Go.Proofs.Ytoihkjnfklogpaa
open Go.RowKit

theorem atom_le {t : Tree} (h : t.good = true) : t.atom.size ≤ t.text.length := by
  obtain ⟨a, ps⟩ := t
  cases ps with
  | nil => rw [text_leaf, size_data]; exact Nat.le_refl _
  | cons p ps =>
    have hge := (Tree.good_parts h).2
    have h0 : a.data.toList = [] := Classical.byContradiction fun h => absurd (hge.2 h) (by simp)
    rw [size_data]
    show a.data.toList.length ≤ _
    rw [h0]
    exact Nat.zero_le _

set_option maxRecDepth 100000 in
set_option maxHeartbeats 6400000 in
theorem l2Valid_any (n : Nat) : ∀ (t : Tree) (A : Nat → Prop) (v : Value) (w : World), t.sz ≤ n → Rep w A t v → t.sz ≤ 1000000000 → t.text.length ≤ 1000000000 → t.good = true →
    Calls Try.prog 50 #[v] w fun e w' => e = .returned (.bool t.isExpr) ∧ Below w.heap.size w w' := by
  induction n with
  | zero => intro t A v w h; cases t; simp [Tree.sz] at h
  | succ n ih =>
    intro t A v w hn hr hb htx hgood
    obtain ⟨s, ps⟩ := t
    simp only [Rep] at hr
    obtain ⟨o, l, c, rfl, hs, hcap⟩ := hr
    obtain rfl := hs.len
    obtain ⟨hgl, hge⟩ := Tree.good_parts hgood
    cases ps with
    | nil =>
      have B0 := boxed0 w (.string s) (.slice o 0 c) 40
      obtain ⟨x0, y0, hB0, hl0⟩ := boxed B0
      have hemp : s.toList.isEmpty = false := by rw [Lib.toList_data]; simpa using hge.1 rfl
      have hemp2 : (s.toList == []) = false := by rw [Lib.toList_data]; simpa using hge.1 rfl
      have hsz : s.size ≤ 1000000000 := Nat.le_trans (atom_le hgood) htx
      have HT : Hid ((Tree.node s []).isExpr = (numB s.data.toList || nameB s.data.toList)) := by show _ = _; simp only [Tree.isExpr, bareB]; exact Bool.or_comm _ _
      have HN := Lib.hid (fun W => l2Number_any s W hsz)
      have HM := Lib.hid (fun W => l2Name_any s W hsz)
      have hq := numP_snd s
      rw [hq] at HN
      clear hge ih hq hgood
      generalize (numP s).1 = z at HN
      generalize numB s.data.toList = b1 at *
      generalize nameB s.data.toList = b2 at *
      cases b1
      · go_enter Try.func50, Try.ntmps50
        go_wp2_with fail
        refine (HN.out _).mono ?_
        rintro e w1 ⟨rfl, rfl⟩
        go_wp2_with fail
        refine (HM.out _).mono ?_
        rintro e w2 ⟨rfl, rfl⟩
        go_wp2
        go_ret
        exact ⟨ret_bool (by rw [HT.out]; rfl), hB0⟩
      · go_enter Try.func50, Try.ntmps50
        go_wp2_with fail
        refine (HN.out _).mono ?_
        rintro e w1 ⟨rfl, rfl⟩
        go_wp2
        go_ret
        exact ⟨ret_bool (by rw [HT.out]; rfl), hB0⟩
    | cons p ps =>
      have hse : s.data.toList = [] := Classical.byContradiction fun h => absurd (hge.2 h) (by simp)
      have hemp : s.toList.isEmpty = true := by rw [Lib.toList_data, hse]; rfl
      have hemp2 : (s.toList == []) = true := by rw [Lib.toList_data, hse]; rfl
      obtain ⟨b, off, rfl, hA, hc⟩ := hs.uncons
      have hpp : ∀ (i : Nat) (q : Tree), (p :: ps)[i]? = some q → q.sz ≤ n ∧ q.sz ≤ 1000000000 ∧ q.text.length ≤ 1000000000 ∧ q.good = true := fun i q hq => by
        have h1 := Tree.sz_part _ _ _ hq
        have h2 := text_part_le (a := s) (List.mem_of_getElem? hq)
        simp only [Tree.sz] at hn hb
        exact ⟨by omega, by omega, by omega, Tree.good_part _ _ _ hq hgl⟩
      have hll := Tree.length_le_szL (p :: ps)
      simp only [Tree.sz] at hb
      have HT : Hid ((Tree.node s (p :: ps)).isExpr = (decide (kidAt p.atom.data.toList (ps.length + 1) ≠ 0) && (headOk (p :: ps) (kidAt p.atom.data.toList (ps.length + 1)) && Tree.exprFrom (kidAt p.atom.data.toList (ps.length + 1) - 1) ps))) := by show _ = _; simp only [Tree.isExpr]
      have HK := Lib.hid (l2Kids_any p.atom)
      have B0 := boxed0 w (.string s) (.slice (some ⟨b, off, none⟩) (ps.length + 1) c) 40
      obtain ⟨x0, y0, hB0, hl0⟩ := boxed B0
      simp only [List.length_cons] at hcap hll
      have HC0 := Lib.hid hc
      obtain ⟨o0, n0, c0, ca0, cb0, r0⟩ := (RepC.keep (Keeps.below hB0) hA _ _ hc).nth 0 (k := off) rfl rfl
      clear hc hs hse hge hgood hgl htx
      by_cases hk0 : kidAt p.atom.data.toList (ps.length + 1) = 0
      · have HT2 : Hid ((Tree.node s (p :: ps)).isExpr = false) := by show _ = _; rw [HT.out, hk0]; rfl
        clear ih hpp HT
        unfold kidAt at hk0
        generalize hkk : kids2 p.atom.data.toList = kk at *
        obtain ⟨k1, k2⟩ := kk
        dsimp only at hk0 HK
        by_cases hz : k1 = 0
        · subst hz
          have hzb : (((0 : Nat) : Int) == 0) = true := rfl
          clear hk0 hkk
          go_enter Try.func50, Try.ntmps50
          go_wp2_with fail
          refine (HK.out _).mono ?_
          rintro e w1 ⟨rfl, rfl⟩
          go_wp2
          go_ret
          exact ⟨ret_bool (by rw [HT2.out]), hB0⟩
        · have hne : ps.length + 1 ≠ k2 := fun h => hz (by rw [if_pos h] at hk0; exact hk0)
          have hzb : ((k1 : Int) == 0) = false := by simp only [beq_eq_false_iff_ne, ne_eq]; omega
          have hnb : (((ps.length : Int) + 1) != (k2 : Int)) = true := by simp only [bne_iff_ne, ne_eq]; omega
          clear hk0 hkk hne
          go_enter Try.func50, Try.ntmps50
          go_wp2_with fail
          refine (HK.out _).mono ?_
          rintro e w1 ⟨rfl, rfl⟩
          go_wp2
          go_ret
          exact ⟨ret_bool (by rw [HT2.out]), hB0⟩
      · have hkk : kids2 p.atom.data.toList = (kidAt p.atom.data.toList (ps.length + 1), ps.length + 1) := by
          unfold kidAt at hk0 ⊢
          by_cases h : ps.length + 1 = (kids2 p.atom.data.toList).2
          · rw [if_pos h, h]
          · rw [if_neg h] at hk0; exact absurd rfl hk0
        have hcs := kidAt_cases p.atom.data.toList (ps.length + 1)
        rw [hkk] at HK
        clear hkk
        have HT2 : Hid ((Tree.node s (p :: ps)).isExpr = (headOk (p :: ps) (kidAt p.atom.data.toList (ps.length + 1)) && Tree.exprFrom (kidAt p.atom.data.toList (ps.length + 1) - 1) ps)) := by show _ = _; rw [HT.out]; simp [hk0]
        have hcs' : (kidAt p.atom.data.toList (ps.length + 1) = 1 ∧ 2 ≤ ps.length + 1) ∨ (kidAt p.atom.data.toList (ps.length + 1) = 2 ∧ ps.length + 1 = 4) ∨ (kidAt p.atom.data.toList (ps.length + 1) = 5 ∧ ps.length + 1 = 6) := by
          rcases hcs with h | ⟨h, h1, -⟩ | ⟨h, h1, -⟩ | ⟨h, h1, -⟩
          · exact absurd h hk0
          · exact .inl ⟨h, h1⟩
          · exact .inr (.inl ⟨h, h1⟩)
          · exact .inr (.inr ⟨h, h1⟩)
        clear hcs HT
        generalize kidAt p.atom.data.toList (ps.length + 1) = k at *
        have hzb : ((k : Int) == 0) = false := by simp only [beq_eq_false_iff_ne, ne_eq]; omega
        have hnb : (((ps.length : Int) + 1) != (((ps.length + 1 : Nat) : Int))) = false := by simp
        have HQ := Lib.hid (fun (i : Nat) (q : Tree) (hq : (p :: ps)[i]? = some q) v w' hr => ih q A v w' (hpp i q hq).1 hr (hpp i q hq).2.1 (hpp i q hq).2.2.1 (hpp i q hq).2.2.2)
        clear ih
        rcases hcs' with ⟨h, hl⟩ | ⟨h, hl⟩ | ⟨h, hl⟩
-- ways
        · subst h
          have HT3 : Hid ((Tree.node s (p :: ps)).isExpr = Tree.exprFrom 0 ps) := by show _ = _; rw [HT2.out]; simp [headOk]
          clear HT2 hpp
          go_enter Try.func50, Try.ntmps50
          go_wp2_with fail
          refine (HK.out _).mono ?_
          rintro e w1 ⟨rfl, rfl⟩
          go_wp2_with fail
          go_region
          go_wp2
          go_loopw [7] (fun i wr => ∃ m : Nat, 1 ≤ m ∧ m ≤ ps.length + 1 ∧ i = .int .i64 m ∧ Hid (∀ (j : Nat) (q : Tree), 1 ≤ j → j < m → (p :: ps)[j]? = some q → q.isExpr = true) ∧ Below (w.heap.size + 1) (w.alloc (.cells #[.string s, .slice (some ⟨b, off, none⟩) (ps.length + 1) c] 40)) wr) (fun i _ => ps.length + 1 - (intOf i).toNat)
          case atStart => exact ⟨1, Nat.le_refl _, (by omega), rfl, fun j q h1 h2 => by omega, (by first | exact B0 | exact B0.drew)⟩
          case round =>
            obtain ⟨m, hm1, hm, rfl, HK, hbr⟩ := hrel
            obtain ⟨x1, y1, hB1, hl1⟩ := boxed hbr
            by_cases hlt : m < ps.length + 1
            · obtain ⟨q, hq⟩ : ∃ q, (p :: ps)[m]? = some q := ⟨(p :: ps)[m]'(by simpa using hlt), by simp⟩
              obtain ⟨o', n', c', hx, hy, hrp⟩ := (RepC.keep (Keeps.below hB1) hA _ _ HC0.out).nth m (p := q) (k := off + m * 2) hq rfl
              have HCl := Lib.hid (HQ.out m q hq _ wr hrp)
              have HN := Lib.hid hq
              clear hq
              go_wp2_with fail
              refine HCl.out.mono ?_
              rintro e wq ⟨rfl, hbq⟩
              have hB2 := hbr.next hbq
              cases hqt : q.isExpr
              · have HF := Lib.hid (exprFrom_no (ps := ps) (k := 1 - 1) (i := m - 1) (by omega) (q := q) (by have := HN.out; rw [show m = (m - 1) + 1 from by omega] at this; simpa using this) hqt)
                clear hqt HCl
                go_wp2
                go_ret
                exact ⟨ret_bool (by rw [HT3.out, HF.out]), (boxed hB2).2.2.1⟩
              · have HZ := Lib.hid hqt
                clear hqt HCl
                go_wp2
                go_roundw
                case rel => exact ⟨m + 1, by omega, by omega, by go_num, fun j q' h1 h2 hq' => by
                  by_cases h : j = m
                  · subst h; rw [HN.out] at hq'; cases hq'; exact HZ.out
                  · exact HK.out j q' h1 (by omega) hq', hB2⟩
                case measure => simp [intOf]; omega
            · have HF := Lib.hid (exprFrom_all ps (1 - 1) fun i q h1 hq => HK.out (i + 1) q (by omega) (by have := (List.getElem?_eq_some_iff.1 hq).1; omega) (by simpa using hq))
              go_wp2
              go_ret
              exact ⟨ret_bool (by rw [HT3.out, HF.out]), hB1⟩
        · subst h
          have HL := Lib.hid hl
          have hlq : 4 ≤ ps.length + 1 := by omega
          clear hl
          obtain ⟨q1, hq1⟩ : ∃ q, (p :: ps)[1]? = some q := ⟨(p :: ps)[1]'(by have := HL.out; simp only [List.length_cons]; omega), by simp⟩
          obtain ⟨o1, n1, c1, ca1, cb1, -⟩ := (RepC.keep (Keeps.below hB0) hA _ _ HC0.out).nth 1 (p := q1) (k := off + 2) hq1 rfl
          have hz1 : q1.atom.size ≤ 1000000000 := Nat.le_trans (atom_le (hpp 1 q1 hq1).2.2.2) (hpp 1 q1 hq1).2.2.1
          have HM := Lib.hid (fun W => l2Name_any q1.atom W hz1)
          have HT4 : Hid ((Tree.node s (p :: ps)).isExpr = (nameB q1.atom.data.toList && Tree.exprFrom 1 ps)) := by
            show _ = _
            rw [HT2.out]
            simp only [headOk, nth, List.getD_eq_getElem?_getD, hq1]
            rfl
          clear HT2 hpp hz1 hq1
          generalize nameB q1.atom.data.toList = b1 at *
          generalize q1.atom = a1 at *
          cases b1
          · have HT3 : Hid ((Tree.node s (p :: ps)).isExpr = false) := by show _ = _; rw [HT4.out]; rfl
            clear HT4
            go_enter Try.func50, Try.ntmps50
            go_wp2_with fail
            refine (HK.out _).mono ?_
            rintro e w1 ⟨rfl, rfl⟩
            go_wp2_with fail
            refine (HM.out _).mono ?_
            rintro e w2 ⟨rfl, rfl⟩
            go_wp2
            go_ret
            exact ⟨ret_bool (by rw [HT3.out]), hB0⟩
          · have HT3 : Hid ((Tree.node s (p :: ps)).isExpr = Tree.exprFrom 1 ps) := by show _ = _; rw [HT4.out]; rfl
            clear HT4
            go_enter Try.func50, Try.ntmps50
            go_wp2_with fail
            refine (HK.out _).mono ?_
            rintro e w1 ⟨rfl, rfl⟩
            go_wp2_with fail
            refine (HM.out _).mono ?_
            rintro e w2 ⟨rfl, rfl⟩
            go_wp2_with fail
            go_region
            go_wp2
            go_loopw [7] (fun i wr => ∃ m : Nat, 2 ≤ m ∧ m ≤ ps.length + 1 ∧ i = .int .i64 m ∧ Hid (∀ (j : Nat) (q : Tree), 2 ≤ j → j < m → (p :: ps)[j]? = some q → q.isExpr = true) ∧ Below (w.heap.size + 1) (w.alloc (.cells #[.string s, .slice (some ⟨b, off, none⟩) (ps.length + 1) c] 40)) wr) (fun i _ => ps.length + 1 - (intOf i).toNat)
            case atStart => exact ⟨2, Nat.le_refl _, (by have := HL.out; omega), rfl, fun j q h1 h2 => by omega, (by first | exact B0 | exact B0.drew)⟩
            case round =>
              obtain ⟨m, hm1, hm, rfl, HK, hbr⟩ := hrel
              obtain ⟨x1, y1, hB1, hl1⟩ := boxed hbr
              by_cases hlt : m < ps.length + 1
              · obtain ⟨q, hq⟩ : ∃ q, (p :: ps)[m]? = some q := ⟨(p :: ps)[m]'(by simpa using hlt), by simp⟩
                obtain ⟨o', n', c', hx, hy, hrp⟩ := (RepC.keep (Keeps.below hB1) hA _ _ HC0.out).nth m (p := q) (k := off + m * 2) hq rfl
                have HCl := Lib.hid (HQ.out m q hq _ wr hrp)
                have HN := Lib.hid hq
                clear hq
                go_wp2_with fail
                refine HCl.out.mono ?_
                rintro e wq ⟨rfl, hbq⟩
                have hB2 := hbr.next hbq
                cases hqt : q.isExpr
                · have HF := Lib.hid (exprFrom_no (ps := ps) (k := 2 - 1) (i := m - 1) (by omega) (q := q) (by have := HN.out; rw [show m = (m - 1) + 1 from by omega] at this; simpa using this) hqt)
                  clear hqt HCl
                  go_wp2
                  go_ret
                  exact ⟨ret_bool (by rw [HT3.out, HF.out]), (boxed hB2).2.2.1⟩
                · have HZ := Lib.hid hqt
                  clear hqt HCl
                  go_wp2
                  go_roundw
                  case rel => exact ⟨m + 1, by omega, by omega, by go_num, fun j q' h1 h2 hq' => by
                    by_cases h : j = m
                    · subst h; rw [HN.out] at hq'; cases hq'; exact HZ.out
                    · exact HK.out j q' h1 (by omega) hq', hB2⟩
                  case measure => simp [intOf]; omega
              · have HF := Lib.hid (exprFrom_all ps (2 - 1) fun i q h1 hq => HK.out (i + 1) q (by omega) (by have := (List.getElem?_eq_some_iff.1 hq).1; omega) (by simpa using hq))
                go_wp2
                go_ret
                exact ⟨ret_bool (by rw [HT3.out, HF.out]), hB1⟩
        · subst h
          have hget : ∀ i, i < 6 → ∃ q, (p :: ps)[i]? = some q := fun i hi => ⟨(p :: ps)[i]'(by simp only [List.length_cons]; omega), by simp⟩
          have hbd : ∀ (i : Nat) (q : Tree), (p :: ps)[i]? = some q → i < 6 := fun i q hq => by have := (List.getElem?_eq_some_iff.1 hq).1; simp only [List.length_cons] at this; omega
          have HG := Lib.hid hget
          have hlq := hl
          have HBD := Lib.hid hbd
          clear hbd
          obtain ⟨q1, hq1⟩ := hget 1 (by omega)
          obtain ⟨q2, hq2⟩ := hget 2 (by omega)
          obtain ⟨q3, hq3⟩ := hget 3 (by omega)
          obtain ⟨q4, hq4⟩ := hget 4 (by omega)
          clear hget
          clear hnb
          rw [List.length_cons]
          generalize ps.length + 1 = L at *
          obtain rfl : L = 6 := by omega
          clear hl hlq
          have hRC := RepC.keep (Keeps.below hB0) hA _ _ HC0.out
          obtain ⟨o1, n1, c1, ca1, cb1, -⟩ := hRC.nth 1 (p := q1) (k := off + 2) hq1 rfl
          obtain ⟨o2, n2, c2, ca2, cb2, -⟩ := hRC.nth 2 (p := q2) (k := off + 4) hq2 rfl
          obtain ⟨o3, n3, c3, ca3, cb3, r3⟩ := hRC.nth 3 (p := q3) (k := off + 6) hq3 rfl
          obtain ⟨o4, n4, c4, ca4, cb4, r4⟩ := hRC.nth 4 (p := q4) (k := off + 8) hq4 rfl
          clear hRC
          have hz1 : q1.atom.size ≤ 1000000000 := Nat.le_trans (atom_le (hpp 1 q1 hq1).2.2.2) (hpp 1 q1 hq1).2.2.1
          have hz2 : q2.atom.size ≤ 1000000000 := Nat.le_trans (atom_le (hpp 2 q2 hq2).2.2.2) (hpp 2 q2 hq2).2.2.1
          have HM := Lib.hid (fun W => l2Name_any q1.atom W hz1)
          have HM2 := Lib.hid (fun W => l2Name_any q2.atom W hz2)
          have HD3 := Lib.hid (fun v W hr => l1Typed_any q3 A v W hr (hpp 3 q3 hq3).2.1 (hpp 3 q3 hq3).2.2.2)
          have HD4 := Lib.hid (fun v W hr => l1Typed_any q4 A v W hr (hpp 4 q4 hq4).2.1 (hpp 4 q4 hq4).2.2.2)
          have HT4 : Hid ((Tree.node s (p :: ps)).isExpr = (nameB q1.atom.data.toList && nameB q2.atom.data.toList && !(q1.atom.toList == q2.atom.toList) && q3.typed && q4.typed && Tree.exprFrom 4 ps)) := by
            show _ = _
            rw [HT2.out]
            simp only [headOk, nth, List.getD_eq_getElem?_getD, hq1, hq2, hq3, hq4]
            rfl
          clear HT2 hpp hz1 hz2 hq1 hq2 hq3 hq4
          generalize nameB q1.atom.data.toList = b1 at *
          generalize nameB q2.atom.data.toList = b2 at *
          generalize q3.typed = b3 at *
          generalize q4.typed = b4 at *
          generalize hb12 : (q1.atom.toList == q2.atom.toList) = b12 at *
          generalize q1.atom = a1 at *
          generalize q2.atom = a2 at *
          cases b1
          · have HT3 : Hid ((Tree.node s (p :: ps)).isExpr = false) := by show _ = _; rw [HT4.out]; rfl
            clear HT4
            go_enter Try.func50, Try.ntmps50
            go_wp2_with fail
            refine (HK.out _).mono ?_
            rintro e w1 ⟨rfl, rfl⟩
            go_wp2_with fail
            refine (HM.out _).mono ?_
            rintro e w2 ⟨rfl, rfl⟩
            go_wp2
            go_ret
            exact ⟨ret_bool (by rw [HT3.out]), hB0⟩
          · have HT5 := HT4
            have hlt : b < w.heap.size + 1 := by have := lt_of_cell ca1; rwa [World.size_alloc] at this
            have hS : ∀ w' : World, Below (w.heap.size + 1) (w.alloc (.cells #[.string s, .slice (some ⟨b, off, none⟩) 6 c] 40)) w' → w'.cell? ⟨w.heap.size, 0, none⟩ = some (.string s) ∧ w'.cell? ⟨w.heap.size, 1, none⟩ = some (.slice (some ⟨b, off, none⟩) 6 c) ∧ w'.cell? ⟨b, off + 2, none⟩ = some (.string a1) ∧ w'.cell? ⟨b, off + 4, none⟩ = some (.string a2) ∧ w'.cell? ⟨b, off + 6, none⟩ = some (.string q3.atom) ∧ w'.cell? ⟨b, off + 6 + 1, none⟩ = some (.slice o3 n3 c3) ∧ w'.cell? ⟨b, off + 8, none⟩ = some (.string q4.atom) ∧ w'.cell? ⟨b, off + 8 + 1, none⟩ = some (.slice o4 n4 c4) ∧ Below (w.heap.size + 1) (w.alloc (.cells #[.string s, .slice (some ⟨b, off, none⟩) 6 c] 40)) w' :=
              fun w' h => ⟨(boxed h).1, (boxed h).2.1, (h.cell hlt).trans ca1, (h.cell hlt).trans ca2, (h.cell hlt).trans ca3, (h.cell hlt).trans cb3, (h.cell hlt).trans ca4, (h.cell hlt).trans cb4, h⟩
            have hR3 : ∀ w' : World, Below (w.heap.size + 1) (w.alloc (.cells #[.string s, .slice (some ⟨b, off, none⟩) 6 c] 40)) w' → Rep w' A q3 (.agg #[.string q3.atom, .slice o3 n3 c3]) := fun w' h => Rep.keep (Keeps.below (by rw [World.size_alloc]; exact h)) _ _ r3
            have hR4 : ∀ w' : World, Below (w.heap.size + 1) (w.alloc (.cells #[.string s, .slice (some ⟨b, off, none⟩) 6 c] 40)) w' → Rep w' A q4 (.agg #[.string q4.atom, .slice o4 n4 c4]) := fun w' h => Rep.keep (Keeps.below (by rw [World.size_alloc]; exact h)) _ _ r4
            have HS := Lib.hid hS
            have HR3 := Lib.hid hR3
            have HR4 := Lib.hid hR4
            clear hS hR3 hR4
            cases b2
            · skip
              have HT3 : Hid ((Tree.node s (p :: ps)).isExpr = false) := by show _ = _; rw [HT4.out]; simp
              clear HT4 HT5
              go_enter Try.func50, Try.ntmps50
              go_wp2_with fail
              refine (HK.out _).mono ?_
              rintro e w1 ⟨rfl, rfl⟩
              go_wp2_with fail
              refine (HM.out _).mono ?_
              rintro e w2 ⟨rfl, rfl⟩
              go_wp2_with fail
              go_quiet (exact Calls.quiet_of_same ((HM2.out _).mono fun _ _ h => ⟨h.1, h.2.symm⟩))
              go_wp2
              go_ret
              exact ⟨ret_bool (by rw [HT3.out]), Below.drewN hB0 _⟩
            · skip
              cases b12
              rotate_left
              · skip
                have HT3 : Hid ((Tree.node s (p :: ps)).isExpr = false) := by show _ = _; rw [HT4.out]; simp
                clear HT4 HT5
                go_enter Try.func50, Try.ntmps50
                go_wp2_with fail
                refine (HK.out _).mono ?_
                rintro e w1 ⟨rfl, rfl⟩
                go_wp2_with fail
                refine (HM.out _).mono ?_
                rintro e w2 ⟨rfl, rfl⟩
                go_wp2_with fail
                go_quiet (exact Calls.quiet_of_same ((HM2.out _).mono fun _ _ h => ⟨h.1, h.2.symm⟩))
                go_wp2
                go_ret
                exact ⟨ret_bool (by rw [HT3.out]), Below.drewN hB0 _⟩
              · skip
                cases b3
                · skip
                  have HT3 : Hid ((Tree.node s (p :: ps)).isExpr = false) := by show _ = _; rw [HT4.out]; simp
                  clear HT4 HT5
                  go_enter Try.func50, Try.ntmps50
                  go_wp2_with fail
                  refine (HK.out _).mono ?_
                  rintro e w1 ⟨rfl, rfl⟩
                  go_wp2_with fail
                  refine (HM.out _).mono ?_
                  rintro e w2 ⟨rfl, rfl⟩
                  go_wp2_with fail
                  first
                    | (go_region_with (first
                        | (go_at_call_of 44 a2; refine (HM2.out _).mono ?_; rintro e w' ⟨rfl, rfl⟩)
                        | (go_at_call_of 80 (Tree.atom q3); refine (HD3.out _ _ ?_).mono ?_; (exact HR3.out _ (by repeat' (first | assumption | exact B0 | refine Below.drew ?_))); rintro e w3 ⟨rfl, hb3⟩; have hB3 := Below.next (by first | assumption | exact B0 | exact B0.drew) hb3)))
                    | fail
                  all_goals
                    go_wp2
                    go_ret
                    exact ⟨ret_bool (by rw [HT3.out]), (boxed (by first | assumption | exact Below.drew (by assumption))).2.2.1⟩
                · skip
                  cases b4
                  · skip
                    have HT3 : Hid ((Tree.node s (p :: ps)).isExpr = false) := by show _ = _; rw [HT4.out]; simp
                    clear HT4 HT5
                    go_enter Try.func50, Try.ntmps50
                    go_wp2_with fail
                    refine (HK.out _).mono ?_
                    rintro e w1 ⟨rfl, rfl⟩
                    go_wp2_with fail
                    refine (HM.out _).mono ?_
                    rintro e w2 ⟨rfl, rfl⟩
                    go_wp2_with fail
                    (first | (go_region_held3 (fun w' => w'.cell? ⟨w.heap.size, 0, none⟩ = some (.string s) ∧ w'.cell? ⟨w.heap.size, 1, none⟩ = some (.slice (some ⟨b, off, none⟩) 6 c) ∧ w'.cell? ⟨b, off + 2, none⟩ = some (.string a1) ∧ w'.cell? ⟨b, off + 4, none⟩ = some (.string a2) ∧ w'.cell? ⟨b, off + 6, none⟩ = some (.string q3.atom) ∧ w'.cell? ⟨b, off + 6 + 1, none⟩ = some (.slice o3 n3 c3) ∧ w'.cell? ⟨b, off + 8, none⟩ = some (.string q4.atom) ∧ w'.cell? ⟨b, off + 8 + 1, none⟩ = some (.slice o4 n4 c4) ∧ Below (w.heap.size + 1) (w.alloc (.cells #[.string s, .slice (some ⟨b, off, none⟩) 6 c] 40)) w') (first | exact HS.out _ (by assumption) | exact HS.out _ B0.drew | exact HS.out _ B0 | (refine HS.out _ ?_; (repeat' (first | assumption | refine Below.drew ?_ )); done))
                      (first
                        | (go_at_call_of 44 a2; refine (HM2.out _).mono ?_; rintro e w' ⟨rfl, rfl⟩)
                        | (go_at_call_of 80 (Tree.atom q3); refine (HD3.out _ _ ?_).mono ?_; (exact HR3.out _ (by repeat' (first | assumption | exact B0 | refine Below.drew ?_))); rintro e w3 ⟨rfl, hb3⟩; have hB3 := Below.next (by first | assumption | exact B0 | exact B0.drew) hb3)
                        | (go_at_call_of 80 (Tree.atom q4); refine (HD4.out _ _ ?_).mono ?_; (exact HR4.out _ (by repeat' (first | assumption | exact B0 | refine Below.drew ?_))); rintro e w4 ⟨rfl, hb4⟩; have hB4 := Below.next (by first | assumption | exact B0 | exact B0.drew) hb4))) | fail)
                    go_wp2
                    go_ret
                    exact ⟨ret_bool (by rw [HT3.out]), (boxed (by first | exact B0.drew | exact B0 | assumption)).2.2.1⟩
                  · skip
                    have HT3 : Hid ((Tree.node s (p :: ps)).isExpr = Tree.exprFrom 4 ps) := by show _ = _; rw [HT4.out]; simp
                    clear HT4 HT5
                    go_enter Try.func50, Try.ntmps50
                    go_wp2_with fail
                    refine (HK.out _).mono ?_
                    rintro e w1 ⟨rfl, rfl⟩
                    go_wp2_with fail
                    refine (HM.out _).mono ?_
                    rintro e w2 ⟨rfl, rfl⟩
                    go_wp2_with fail
                    (first | (go_region_held3 (fun w' => w'.cell? ⟨w.heap.size, 0, none⟩ = some (.string s) ∧ w'.cell? ⟨w.heap.size, 1, none⟩ = some (.slice (some ⟨b, off, none⟩) 6 c) ∧ w'.cell? ⟨b, off + 2, none⟩ = some (.string a1) ∧ w'.cell? ⟨b, off + 4, none⟩ = some (.string a2) ∧ w'.cell? ⟨b, off + 6, none⟩ = some (.string q3.atom) ∧ w'.cell? ⟨b, off + 6 + 1, none⟩ = some (.slice o3 n3 c3) ∧ w'.cell? ⟨b, off + 8, none⟩ = some (.string q4.atom) ∧ w'.cell? ⟨b, off + 8 + 1, none⟩ = some (.slice o4 n4 c4) ∧ Below (w.heap.size + 1) (w.alloc (.cells #[.string s, .slice (some ⟨b, off, none⟩) 6 c] 40)) w') (first | exact HS.out _ (by assumption) | exact HS.out _ B0.drew | exact HS.out _ B0 | (refine HS.out _ ?_; (repeat' (first | assumption | refine Below.drew ?_ )); done))
                      (first
                        | (go_at_call_of 44 a2; refine (HM2.out _).mono ?_; rintro e w' ⟨rfl, rfl⟩)
                        | (go_at_call_of 80 (Tree.atom q3); refine (HD3.out _ _ ?_).mono ?_; (exact HR3.out _ (by repeat' (first | assumption | exact B0 | refine Below.drew ?_))); rintro e w3 ⟨rfl, hb3⟩; have hB3 := Below.next (by first | assumption | exact B0 | exact B0.drew) hb3)
                        | (go_at_call_of 80 (Tree.atom q4); refine (HD4.out _ _ ?_).mono ?_; (exact HR4.out _ (by repeat' (first | assumption | exact B0 | refine Below.drew ?_))); rintro e w4 ⟨rfl, hb4⟩; have hB4 := Below.next (by first | assumption | exact B0 | exact B0.drew) hb4))) | fail)
                    go_wp2
                    go_loopw [7] (fun i wr => ∃ m : Nat, 5 ≤ m ∧ m ≤ 6 ∧ i = .int .i64 m ∧ Hid (∀ (j : Nat) (q : Tree), 5 ≤ j → j < m → (p :: ps)[j]? = some q → q.isExpr = true) ∧ Below (w.heap.size + 1) (w.alloc (.cells #[.string s, .slice (some ⟨b, off, none⟩) 6 c] 40)) wr) (fun i _ => 6 - (intOf i).toNat)
                    case atStart => exact ⟨5, Nat.le_refl _, (by omega), rfl, fun j q h1 h2 => by omega, (by assumption)⟩
                    case round =>
                      obtain ⟨m, hm1, hm, rfl, HK, hbr⟩ := hrel
                      obtain ⟨x1, y1, hB1, hl1⟩ := boxed hbr
                      by_cases hlt : m < 6
                      · obtain ⟨q, hq⟩ : ∃ q, (p :: ps)[m]? = some q := HG.out m hlt
                        obtain ⟨o', n', c', hx, hy, hrp⟩ := (RepC.keep (Keeps.below hB1) hA _ _ HC0.out).nth m (p := q) (k := off + m * 2) hq rfl
                        have HCl := Lib.hid (HQ.out m q hq _ wr hrp)
                        have HN := Lib.hid hq
                        clear hq
                        go_wp2_with fail
                        refine HCl.out.mono ?_
                        rintro e wq ⟨rfl, hbq⟩
                        have hB2 := hbr.next hbq
                        cases hqt : q.isExpr
                        · have HF := Lib.hid (exprFrom_no (ps := ps) (k := 5 - 1) (i := m - 1) (by omega) (q := q) (by have := HN.out; rw [show m = (m - 1) + 1 from by omega] at this; simpa using this) hqt)
                          clear hqt HCl
                          go_wp2
                          go_ret
                          exact ⟨ret_bool (by rw [HT3.out, HF.out]), (boxed hB2).2.2.1⟩
                        · have HZ := Lib.hid hqt
                          clear hqt HCl
                          go_wp2
                          go_roundw
                          case rel => exact ⟨m + 1, by omega, by omega, by go_num, fun j q' h1 h2 hq' => by
                            by_cases h : j = m
                            · subst h; rw [HN.out] at hq'; cases hq'; exact HZ.out
                            · exact HK.out j q' h1 (by omega) hq', hB2⟩
                          case measure => simp [intOf]; omega
                      · have HF := Lib.hid (exprFrom_all ps (5 - 1) fun i q h1 hq => HK.out (i + 1) q (by omega) (by have := HBD.out (i + 1) q (by simpa using hq); omega) (by simpa using hq))
                        go_wp2
                        go_ret
                        exact ⟨ret_bool (by rw [HT3.out, HF.out]), hB1⟩
-- end ways
end Go.Proofs.Ytoihkjnfklogpaa
