/- The type of a target type: what the reference writes. -/
import Derived.Test.YtcobcmgmleblkaaBackP
import Derived.Test.YtcobcmgmleblkaaSTarget
import Derived.Deep.RegionHeld3
namespace Go.Proofs.Ytcobcmgmleblkaa
open Go.RowKit

theorem hd_no {t : Tree} {c : UInt8} (h : ¬ t.hd.data.toList = [c]) : (t.hd.toList == [c]) = false := by rw [Lib.toList_data]; simpa using h
theorem hd_yes {t : Tree} {c : UInt8} (h : t.hd.data.toList = [c]) : (t.hd.toList == [c]) = true := by rw [Lib.toList_data]; simpa using h

/-- A form whose head is an atom with bytes has parts, the first of which is that atom. -/
theorem hd_cons {t : Tree} {c : UInt8} (h : t.hd.data.toList = [c]) : ∃ a p ps, t = .node a (p :: ps) ∧ p.atom.data.toList = [c] := by
  obtain ⟨a, ps⟩ := t
  cases ps with
  | nil => exact absurd h (by simp [Tree.hd, Tree.parts])
  | cons p ps => exact ⟨a, p, ps, rfl, h⟩

theorem target_e {a : ByteArray} {p : Tree} {ps : List Tree} {h : Bool} (hp : p.atom.data.toList = [101]) (ht : (Tree.node a (p :: ps)).target unkI h false = true) : ∃ k, ps = [k] ∧ k.target unkI true false = true := by
  simp only [Tree.target, if_pos hp, Bool.and_eq_true, decide_eq_true_eq] at ht
  obtain ⟨h1, h2⟩ := ht
  match ps, h1 with
  | [k], _ => exact ⟨k, rfl, by simpa [Tree.targetL] using h2⟩
theorem target_tc {a : ByteArray} {p : Tree} {ps : List Tree} {h : Bool} (hp : ¬ p.atom.data.toList = [101]) (ht : (Tree.node a (p :: ps)).target unkI h false = true) : (p.atom.data.toList = [116] ∨ p.atom.data.toList = [99]) ∧ Tree.targetL unkI h false ps = true := by
  simp only [Tree.target, if_neg hp, Bool.and_eq_true, Bool.or_eq_true, decide_eq_true_eq] at ht
  exact ht
theorem targetL_part {h : Bool} : ∀ {ps : List Tree} {i : Nat} {q : Tree}, Tree.targetL unkI h false ps = true → ps[i]? = some q → q.target unkI h false = true
  | [], i, q, _, hq => by simp at hq
  | p :: ps, 0, q, ht, hq => by simp only [Tree.targetL, Bool.and_eq_true] at ht; simp at hq; subst hq; exact ht.1
  | p :: ps, i + 1, q, ht, hq => by simp only [Tree.targetL, Bool.and_eq_true] at ht; exact targetL_part ht.2 (by simpa using hq)

/-- How the code in a package is found. -/
theorem code_shape {t : Tree} {h : Bool} (ht : t.target unkI h false = true) :
    (¬ t.hd.data.toList = [101] ∧ t.code = []) ∨ ∃ a p k, t = .node a [p, k] ∧ p.atom.data.toList = [101] ∧ k.target unkI true false = true ∧
      ((¬ k.hd.data.toList = [116] ∧ t.code = []) ∨ ∃ b q ks, k = .node b (q :: ks) ∧ q.atom.data.toList = [116] ∧
        ((ks.length ≠ 2 ∧ t.code = []) ∨ ∃ c z, ks = [c, z] ∧
          ((¬ c.hd.data.toList = [99] ∧ t.code = []) ∨ ∃ d r cs, c = .node d (r :: cs) ∧ r.atom.data.toList = [99] ∧ t.code = r :: cs ∧ Tree.targetL unkI true false cs = true))) := by
  by_cases h1 : t.hd.data.toList = [101]
  · obtain ⟨a, p, ps, rfl, hp⟩ := hd_cons h1
    obtain ⟨k, rfl, hk⟩ := target_e hp ht
    refine .inr ⟨a, p, k, rfl, hp, hk, ?_⟩
    by_cases h2 : k.hd.data.toList = [116]
    · obtain ⟨b, q, ks, rfl, hq⟩ := hd_cons h2
      refine .inr ⟨b, q, ks, rfl, hq, ?_⟩
      have htk := (target_tc (by rw [hq]; decide) hk).2
      by_cases h3 : ks.length = 2
      · obtain ⟨c, z, rfl⟩ : ∃ c z, ks = [c, z] := by
          match ks, h3 with
          | [c, z], _ => exact ⟨c, z, rfl⟩
        refine .inr ⟨c, z, rfl, ?_⟩
        by_cases h4 : c.hd.data.toList = [99]
        · obtain ⟨d, r, cs, rfl, hr⟩ := hd_cons h4
          refine .inr ⟨d, r, cs, rfl, hr, by simp [Tree.code, hp, hq, hr], ?_⟩
          have hc := targetL_part (i := 0) htk rfl
          exact (target_tc (by rw [hr]; decide) hc).2
        · refine .inl ⟨h4, ?_⟩
          unfold Tree.code
          split
          · rename_i heq
            split
            · rename_i hh
              simp only [Tree.node.injEq, List.cons.injEq] at heq
              obtain ⟨-, -, ⟨-, -, ⟨hc, -⟩⟩, -⟩ := heq
              subst hc
              exact absurd hh.2.2 h4
            · rfl
          · rfl
      · refine .inl ⟨h3, ?_⟩
        unfold Tree.code
        split
        · rename_i heq
          simp only [Tree.node.injEq, List.cons.injEq] at heq
          obtain ⟨-, -, ⟨-, -, hk⟩, -⟩ := heq
          subst hk
          simp at h3
        · rfl
    · refine .inl ⟨h2, ?_⟩
      unfold Tree.code
      split
      · rename_i heq
        split
        · rename_i hh
          simp only [Tree.node.injEq, List.cons.injEq] at heq
          obtain ⟨-, -, hk, -⟩ := heq
          subst hk
          exact absurd hh.2.1 h2
        · rfl
      · rfl
  · refine .inl ⟨h1, ?_⟩
    unfold Tree.code
    split
    · split
      · rename_i hh
        exact absurd hh.1 h1
      · rfl
    · rfl

theorem code_target {t : Tree} {h : Bool} (ht : t.target unkI h false = true) {i : Nat} {q : Tree} (hq : t.code[i + 1]? = some q) : q.target unkI true false = true := by
  rcases code_shape ht with ⟨-, e⟩ | ⟨a, p, k, rfl, -, -, ⟨-, e⟩ | ⟨b, q', ks, rfl, -, ⟨-, e⟩ | ⟨c, z, rfl, ⟨-, e⟩ | ⟨d, r, cs, rfl, -, e, hc⟩⟩⟩⟩
  · rw [e] at hq; simp at hq
  · rw [e] at hq; simp at hq
  · rw [e] at hq; simp at hq
  · rw [e] at hq; simp at hq
  · rw [e] at hq; exact targetL_part hc (by simpa using hq)

set_option maxRecDepth 100000 in
set_option maxHeartbeats 800000 in
theorem head4_any (t : Tree) (A : Nat → Prop) (v : Value) (w : World) (hr : Rep w A t v) (hg : t.good = true) :
    Calls Try.prog 70 #[v] w fun e w' => e = .returned (.string t.hd) ∧ Below w.heap.size w w' := by
  obtain ⟨s, ps⟩ := t
  obtain ⟨hgl, hge⟩ := Tree.good_parts hg
  simp only [Rep] at hr
  obtain ⟨o, l, c, rfl, hs, hcap⟩ := hr
  obtain rfl := hs.len
  have B0 := boxed0 w (.string s) (.slice o ps.length c) 46
  obtain ⟨x0, y0, hB0, hl0⟩ := boxed B0
  cases ps with
  | nil =>
    have hemp : s.toList.isEmpty = false := by rw [Lib.toList_data]; simpa using hge.1 rfl
    have hemp2 : (s.toList == []) = false := by rw [Lib.toList_data]; simpa using hge.1 rfl
    have HT : Hid ((Tree.node s []).hd = ⟨#[]⟩) := rfl
    clear hge hgl hg hs
    go_enter Try.func70, Try.ntmps70
    go_wp2
    go_ret
    exact ⟨congrArg (fun x => Ending.returned (.string x)) HT.out.symm, hB0⟩
  | cons p ps =>
    have hse : s.data.toList = [] := Classical.byContradiction fun h => absurd (hge.2 h) (by simp)
    have hemp : s.toList.isEmpty = true := by rw [Lib.toList_data, hse]; rfl
    have hemp2 : (s.toList == []) = true := by rw [Lib.toList_data, hse]; rfl
    have HT : Hid ((Tree.node s (p :: ps)).hd = p.atom) := rfl
    obtain ⟨b, off, rfl, hA, hc⟩ := hs.uncons
    obtain ⟨o0, n0, c0, ca0, cb0, r0⟩ := (RepC.keep (Keeps.below hB0) hA _ _ hc).nth 0 (k := off) rfl rfl
    have hlp : 0 < (p :: ps).length := by simp
    have hlen : (((p :: ps).length : Int) == 0) = false := by simp only [List.length_cons, beq_eq_false_iff_ne, ne_eq]; omega
    clear hge hg hgl hs hc hse
    generalize (p :: ps).length = l at *
    go_enter Try.func70, Try.ntmps70
    go_wp2
    go_ret
    exact ⟨congrArg (fun x => Ending.returned (.string x)) HT.out.symm, hB0⟩

/-- What a search for the code in a package hands back. -/
def CodeR (A : Nat → Prop) (t : Tree) (w : World) (e : Ending) (w' : World) : Prop := ∃ o c, e = .returned (.slice o t.code.length c) ∧ RepS w' A t.code o t.code.length ∧ Below w.heap.size w w'

theorem codeR_none {A : Nat → Prop} {t : Tree} {w w' : World} {o : Option Addr} {c : Nat} (h : t.code = []) (hb : Below w.heap.size w w') : CodeR A t w (.returned (.slice o 0 c)) w' :=
  ⟨o, c, by rw [h]; rfl, by rw [h]; exact RepS.nil _ _ _, hb⟩

set_option maxRecDepth 100000 in
set_option maxHeartbeats 1600000 in
theorem l6tCode_any (t : Tree) (h : Bool) (A : Nat → Prop) (v : Value) (w : World) (hr : Rep w A t v) (hg : t.good = true) (ht : t.target unkI h false = true) :
    Calls Try.prog 71 #[v] w (CodeR A t w) := by
  have HD := Lib.hid (fun v w hr => head4_any t A v w hr hg)
  have hr0 := hr
  have hsh := code_shape ht
  obtain ⟨s, ps⟩ := t
  simp only [Rep] at hr
  obtain ⟨o, l, c, rfl, hs, hcap⟩ := hr
  obtain rfl := hs.len
  have B0 := boxed0 w (.string s) (.slice o ps.length c) 46
  have HR0 := Lib.hid (Rep.keep (Keeps.alloc A w (.cells #[.string s, .slice o ps.length c] 46)) _ _ hr0)
  clear hr0
  rcases hsh with ⟨h1, e⟩ | ⟨a, p, k, ht0, hp, hk, hsh⟩
  · have q1 := hd_no h1
    have HC : Hid ((Tree.node s ps).code = []) := e
    clear h1 e hs ht
    go_enter Try.func71, Try.ntmps71
    go_wp2_with (go_at_call 70; refine (HD.out _ _ HR0.out).mono ?_; rintro e w1 ⟨rfl, hb1⟩; have hB1 := (boxed (B0.next hb1)).2.2.1)
    go_ret
    exact codeR_none HC.out (hB1.alloc hB1.size _)
  · obtain ⟨rfl, rfl⟩ : s = a ∧ ps = [p, k] := by cases ht0; exact ⟨rfl, rfl⟩
    have q1 : ((Tree.node s [p, k]).hd.toList == [101]) = true := hd_yes hp
    have hgk : k.good = true := Tree.good_part _ 1 _ rfl (Tree.good_parts hg).1
    have HDK := Lib.hid (fun v w hr => head4_any k A v w hr hgk)
    obtain ⟨b, off, rfl, hA, hc⟩ := hs.uncons
    have HCC := Lib.hid (fun (W : World) (h : Below w.heap.size w W) => RepC.keep (Keeps.below h) hA _ _ hc)
    clear hp ht ht0 hs hc hg
    rcases hsh with ⟨h1, e⟩ | ⟨b1, q, ks, rfl, hq, hsh⟩
    · have q2 := hd_no h1
      have HC : Hid ((Tree.node s [p, k]).code = []) := e
      clear h1 e hk
      go_enter Try.func71, Try.ntmps71
      go_wp2_with fail
      refine (HD.out _ _ HR0.out).mono ?_
      rintro e w1 ⟨rfl, hb1⟩
      obtain ⟨x1, y1, -, hl1⟩ := boxed (B0.next hb1)
      obtain ⟨o1, n1, c1, ca1, cb1, r1⟩ := (HCC.out _ (boxed (B0.next hb1)).2.2.1).nth 1 (k := off + 2) rfl rfl
      go_wp2_with fail
      refine (HDK.out _ _ r1).mono ?_
      rintro e w2 ⟨rfl, hb2⟩
      have hB2 := (boxed ((B0.next hb1).next hb2)).2.2.1
      go_wp2
      go_ret
      exact codeR_none HC.out (hB2.alloc hB2.size _)
    · have q2 : ((Tree.node b1 (q :: ks)).hd.toList == [116]) = true := hd_yes hq
      clear hq hk
      rcases hsh with ⟨h1, e⟩ | ⟨c0, z, rfl, hsh⟩
      · have HC : Hid ((Tree.node s [p, Tree.node b1 (q :: ks)]).code = []) := e
        have hl3 : (((q :: ks).length : Int) == 3) = false := by simp only [List.length_cons]; simp; omega
        clear h1 e
        go_enter Try.func71, Try.ntmps71
        go_wp2_with fail
        refine (HD.out _ _ HR0.out).mono ?_
        rintro e w1 ⟨rfl, hb1⟩
        obtain ⟨x1, y1, -, hl1⟩ := boxed (B0.next hb1)
        obtain ⟨o1, n1, c1, ca1, cb1, r1⟩ := (HCC.out _ (boxed (B0.next hb1)).2.2.1).nth 1 (k := off + 2) rfl rfl
        obtain ⟨-, rfl, -⟩ := Rep.parts r1
        go_wp2_with fail
        refine (HDK.out _ _ r1).mono ?_
        rintro e w2 ⟨rfl, hb2⟩
        obtain ⟨x2, y2, -, hl2⟩ := boxed ((B0.next hb1).next hb2)
        obtain ⟨o1', n1', c1', ca1', cb1', r1'⟩ := (HCC.out _ (boxed ((B0.next hb1).next hb2)).2.2.1).nth 1 (k := off + 2) rfl rfl
        obtain ⟨-, rfl, -⟩ := Rep.parts r1'
        have hB2 := (boxed ((B0.next hb1).next hb2)).2.2.1
        generalize (q :: ks).length = L at *
        have hl4 : ¬ (L : Int) = 3 := by simpa using hl3
        have hl5 : ¬ L = 3 := by omega
        have hl6 : ((L : Int) != 3) = true := by simp; omega
        go_wp2
        go_ret
        exact codeR_none HC.out (hB2.alloc hB2.size _)
      · have hgc : c0.good = true := Tree.good_part _ 1 _ rfl (Tree.good_parts hgk).1
        have HDC := Lib.hid (fun v w hr => head4_any c0 A v w hr hgc)
        rcases hsh with ⟨h1, e⟩ | ⟨d, r, cs, rfl, hr', e, hcs⟩
        · have q3 := hd_no h1
          have HC : Hid ((Tree.node s [p, Tree.node b1 [q, c0, z]]).code = []) := e
          clear h1 e
          go_enter Try.func71, Try.ntmps71
          go_wp2_with fail
          refine (HD.out _ _ HR0.out).mono ?_
          rintro e w1 ⟨rfl, hb1⟩
          obtain ⟨x1, y1, -, hl1⟩ := boxed (B0.next hb1)
          obtain ⟨o1, n1, c1, ca1, cb1, r1⟩ := (HCC.out _ (boxed (B0.next hb1)).2.2.1).nth 1 (k := off + 2) rfl rfl
          obtain ⟨-, rfl, -⟩ := Rep.parts r1
          go_wp2_with fail
          refine (HDK.out _ _ r1).mono ?_
          rintro e w2 ⟨rfl, hb2⟩
          obtain ⟨x2, y2, -, hl2⟩ := boxed ((B0.next hb1).next hb2)
          have hB2 := (boxed ((B0.next hb1).next hb2)).2.2.1
          obtain ⟨o1', n1', c1', ca1', cb1', r1'⟩ := (HCC.out _ hB2).nth 1 (k := off + 2) rfl rfl
          obtain ⟨-, rfl, hs1, -⟩ := Rep.parts r1'
          obtain ⟨b2, off2, rfl, hA2, hc2⟩ := hs1.uncons
          obtain ⟨o2, n2, c2, ca2, cb2, r2⟩ := hc2.nth 1 (k := off2 + 2) rfl rfl
          go_wp2_with fail
          refine (HDC.out _ _ r2).mono ?_
          rintro e w3 ⟨rfl, hb3⟩
          have hB3 := (boxed (((B0.next hb1).next hb2).next hb3)).2.2.1
          go_wp2
          go_ret
          exact codeR_none HC.out (hB3.alloc hB3.size _)
        · have q3 : ((Tree.node d (r :: cs)).hd.toList == [99]) = true := hd_yes hr'
          have HC : Hid ((Tree.node s [p, Tree.node b1 [q, Tree.node d (r :: cs), z]]).code = r :: cs) := e
          clear e hcs hr'
          go_enter Try.func71, Try.ntmps71
          go_wp2_with fail
          refine (HD.out _ _ HR0.out).mono ?_
          rintro e w1 ⟨rfl, hb1⟩
          obtain ⟨x1, y1, -, hl1⟩ := boxed (B0.next hb1)
          obtain ⟨o1, n1, c1, ca1, cb1, r1⟩ := (HCC.out _ (boxed (B0.next hb1)).2.2.1).nth 1 (k := off + 2) rfl rfl
          obtain ⟨-, rfl, -⟩ := Rep.parts r1
          go_wp2_with fail
          refine (HDK.out _ _ r1).mono ?_
          rintro e w2 ⟨rfl, hb2⟩
          obtain ⟨x2, y2, -, hl2⟩ := boxed ((B0.next hb1).next hb2)
          have hB2 := (boxed ((B0.next hb1).next hb2)).2.2.1
          obtain ⟨o1', n1', c1', ca1', cb1', r1'⟩ := (HCC.out _ hB2).nth 1 (k := off + 2) rfl rfl
          obtain ⟨-, rfl, hs1, -⟩ := Rep.parts r1'
          obtain ⟨b2, off2, rfl, hA2, hc2⟩ := hs1.uncons
          obtain ⟨o2, n2, c2, ca2, cb2, r2⟩ := hc2.nth 1 (k := off2 + 2) rfl rfl
          obtain ⟨-, rfl, -⟩ := Rep.parts r2
          go_wp2_with fail
          refine (HDC.out _ _ r2).mono ?_
          rintro e w3 ⟨rfl, hb3⟩
          obtain ⟨x3, y3, -, hl3⟩ := boxed (((B0.next hb1).next hb2).next hb3)
          have hB3 := (boxed (((B0.next hb1).next hb2).next hb3)).2.2.1
          obtain ⟨e1', e2', e3', da1, db1, s1⟩ := (HCC.out _ hB3).nth 1 (k := off + 2) rfl rfl
          obtain ⟨-, rfl, hs1, -⟩ := Rep.parts s1
          obtain ⟨b3, off3, rfl, hA3, hc3⟩ := hs1.uncons
          obtain ⟨o3, n3, c3, da2, db2, s2⟩ := hc3.nth 1 (k := off3 + 2) rfl rfl
          obtain ⟨-, rfl, hs2, -⟩ := Rep.parts s2
          have hlen : (r :: cs).length = (r :: cs).length := rfl
          go_wp2
          go_ret
          refine ⟨_, _, by rw [HC.out]; rfl, by rw [HC.out]; exact hs2, hB3⟩

theorem bts_two (c : UInt8) (x y : List UInt8) : ByteArray.mk #[40, c, 32] ++ bts x ++ ByteArray.mk #[32] ++ bts y ++ ByteArray.mk #[41] = bts (40 :: c :: 32 :: (x ++ 32 :: (y ++ [41]))) := by
  refine bts_eq ?_
  simp only [data_add, bts_data]
  simp

set_option maxRecDepth 100000 in
set_option maxHeartbeats 3200000 in
theorem l6tBack_any (n : Nat) : ∀ (t : Tree) (h : Bool) (A : Nat → Prop) (v : Value) (w : World), t.sz ≤ n → Rep w A t v → t.good = true → t.target unkI h false = true → t.sz ≤ 24000 →
    Calls Try.prog 38 #[v] w fun e w' => e = .returned (.string (bts t.bck)) ∧ Below w.heap.size w w' := by
  induction n with
  | zero => intro t h A v w h; cases t; simp [Tree.sz] at h
  | succ n ih =>
    intro t h A v w hn hr hg ht hsz
    have HD := Lib.hid (fun v w hr => head4_any t A v w hr hg)
    have HCD := Lib.hid (fun v w hr => l6tCode_any t h A v w hr hg ht)
    have hr0 := hr
    obtain ⟨s, ps⟩ := t
    simp only [Rep] at hr
    obtain ⟨o, l, c, rfl, hs, hcap⟩ := hr
    obtain rfl := hs.len
    have B0 := boxed0 w (.string s) (.slice o ps.length c) 46
    have HR0 := Lib.hid (fun (W : World) (h : Below w.heap.size w W) => Rep.keep (Keeps.below h) _ _ hr0)
    have hge := (Tree.good_parts hg).2
    clear hr0
    cases ps with
    | nil =>
      have hcut : (Tree.node s []).cut3 = none := rfl
      have hbk : (Tree.node s []).bck = if decide (s.data.toList = [105]) = true then [105] else [] := by
        have := (src_none hcut).2.2
        have hl : (Tree.node s []).lone = true := rfl
        rw [hl, Bool.true_and] at this
        exact this
      by_cases h1 : s.data.toList = [105]
      · have e1 : (s.toList == [105]) = true := by rw [Lib.toList_data]; simpa using h1
        have HB : Hid (ByteArray.mk #[105] = bts (Tree.node s []).bck) := by
          show _ = _
          rw [hbk, if_pos (decide_eq_true h1)]; rfl
        clear hbk h1 hge hg ih ht HCD HD
        go_enter Try.func38, Try.ntmps38
        go_wp2
        go_ret
        exact ⟨congrArg (fun x => Ending.returned (.string x)) HB.out, (boxed B0).2.2.1⟩
      · have e1 : (s.toList == [105]) = false := by rw [Lib.toList_data]; simpa using h1
        have HB : Hid (ByteArray.mk #[] = bts (Tree.node s []).bck) := by
          show _ = _
          rw [hbk, if_neg fun e => h1 (of_decide_eq_true e)]; rfl
        have HH : Hid ((Tree.node s []).hd = ⟨#[]⟩) := rfl
        rw [HH.out] at HD
        clear hbk h1 hge hg ih ht HCD
        go_enter Try.func38, Try.ntmps38
        go_wp2_with fail
        refine (HD.out _ _ (HR0.out _ (boxed B0).2.2.1)).mono ?_
        rintro e w1 ⟨rfl, hb1⟩
        obtain ⟨x1, y1, hB1, hl1⟩ := boxed (B0.next hb1)
        go_wp2
        go_ret
        exact ⟨congrArg (fun x => Ending.returned (.string x)) HB.out, hB1⟩
    | cons p ps =>
      have hse : s.data.toList = [] := Classical.byContradiction fun h => absurd (hge.2 h) (by simp)
      have e1 : (s.toList == [105]) = false := by rw [Lib.toList_data, hse]; rfl
      have hgl := (Tree.good_parts hg).1
      have HH : Hid ((Tree.node s (p :: ps)).hd = p.atom) := rfl
      rw [HH.out] at HD
      clear hse hge
      by_cases he : p.atom.data.toList = [101]
      · obtain ⟨k, rfl, hk⟩ := target_e he ht
        have q1 : (p.atom.toList == [116]) = false := by rw [Lib.toList_data, he]; rfl
        have q2 : (p.atom.toList == [101]) = true := by rw [Lib.toList_data]; simpa using he
        have hcd := cut3_two s p k
        have hcg := code_good hg
        have hcz := code_sz (Tree.node s [p, k])
        have hct := fun i q => code_target (i := i) (q := q) ht
        clear hk he
        by_cases h4 : (Tree.node s [p, k]).code.length = 4
        · obtain ⟨a0, a1, x, k', hco⟩ := len4 h4
          rw [hco] at hcd hcg hcz hct
          have hk' := hct 2 k' rfl
          have hgk' := hcg k' (by simp)
          have hzk' := hcz k' (by simp)
          have HCK := Lib.hid (fun v w hr => l6tCode_any k' true A v w hr hgk' hk')
          have HCO : Hid ((Tree.node s [p, k]).code = [a0, a1, x, k']) := hco
          by_cases h3 : k'.code.length = 3
          · obtain ⟨d0, d1, y, hcp⟩ := len3 h3
            have hcg2 := code_good hgk'
            have hcz2 := code_sz k'
            have hct2 := fun i q => code_target (i := i) (q := q) hk'
            rw [hcp] at hcg2 hcz2 hct2
            have HCP : Hid (k'.code = [d0, d1, y]) := hcp
            have hzx := hcz x (by simp)
            have hzy := hcz2 y (by simp)
            have hxs : (bts x.bck).size ≤ 240000 := by rw [bts_size]; have := bck_length _ x (Nat.le_refl _); omega
            have hys : (bts y.bck).size ≤ 240000 := by rw [bts_size]; have := bck_length _ y (Nat.le_refl _); omega
            have hgx := hcg x (by simp)
            have hgy := hcg2 y (by simp)
            have hax := hct 1 x rfl
            have hay := hct2 1 y rfl
            have HX := Lib.hid (fun v w hr => ih x true A v w (by omega) hr hgx hax (by omega))
            have HY := Lib.hid (fun v w hr => ih y true A v w (by omega) hr hgy hay (by omega))
            have HT : Hid (ByteArray.mk #[40, 62, 32] ++ bts x.bck ++ ByteArray.mk #[32] ++ bts y.bck ++ ByteArray.mk #[41] = bts (Tree.node s [p, k]).bck) := by
              show _ = _
              rw [bts_two, (src_some (hcd.trans (by simp only [code4]; rw [hcp]; rfl))).2.2]
            have HW : Hid (∀ w1 w' : World, Below w.heap.size w w1 → Below w1.heap.size w1 w' → Below w.heap.size w w') := fun w1 w' h h' => h.trans (h'.mono h.size)
            generalize bts x.bck = X at *
            generalize bts y.bck = Y at *
            generalize bts (Tree.node s [p, k]).bck = RES at *
            have k1 : ¬ 9223372036854775807 < 3 + X.size := by omega
            have k2 : ¬ 9223372036854775807 < 3 + X.size + 1 := by omega
            have k3 : ¬ 9223372036854775807 < 3 + X.size + 1 + Y.size := by omega
            have k4 : ¬ 9223372036854775807 < 3 + X.size + 1 + Y.size + 1 := by omega
            clear h3 hcd hcg hcz hct hk' hgk' hzk' hg hgl ih ht hn hsz hs h4 hco hcp hcg2 hcz2 hct2 hzx hzy hgx hgy hax hay
            go_enter Try.func38, Try.ntmps38
            go_wp2_with fail
            refine (HD.out _ _ (HR0.out _ (boxed B0).2.2.1)).mono ?_
            rintro e w1 ⟨rfl, hb1⟩
            obtain ⟨x1, y1, hB1, hl1⟩ := boxed (B0.next hb1)
            go_wp2_with fail
            refine (HCD.out _ _ (HR0.out _ hB1)).mono ?_
            rintro e w2 ⟨o3, c3, rfl, hs3, hb2⟩
            rw [HCO.out] at hs3 ⊢
            obtain ⟨x2, y2, hB2, hl2⟩ := boxed ((B0.next hb1).next hb2)
            obtain ⟨b3, off3, rfl, hA3, hc3⟩ := hs3.uncons
            have HRC3 : Hid (∀ W, Below w2.heap.size w2 W → RepC W A [a0, a1, x, k'] b3 off3) := fun W h => RepC.keep (Keeps.below h) hA3 _ _ hc3
            obtain ⟨o4, n4, c4, ca4, cb4, r4⟩ := hc3.nth 3 (p := k') (k := off3 + 6) rfl rfl
            clear hc3 hs3
            go_wp2_with fail
            refine (HCK.out _ _ r4).mono ?_
            rintro e w3 ⟨o5, c5, rfl, hs5, hb3⟩
            rw [HCP.out] at hs5 ⊢
            have hB3 := (boxed (((B0.next hb1).next hb2).next hb3)).2.2.1
            obtain ⟨b5, off5, rfl, hA5, hc5⟩ := hs5.uncons
            obtain ⟨o1, n1, c1, ca1, cb1, r1⟩ := (HRC3.out _ hb3).nth 2 (p := x) (k := off3 + 4) rfl rfl
            obtain ⟨o2, n2, c2, ca2, cb2, r2⟩ := hc5.nth 2 (p := y) (k := off5 + 4) rfl rfl
            have HS : Hid (∀ w' : World, Below w3.heap.size w3 w' → w'.cell? ⟨b3, off3 + 4, none⟩ = some (.string x.atom) ∧ w'.cell? ⟨b3, off3 + 4 + 1, none⟩ = some (.slice o1 n1 c1) ∧ w'.cell? ⟨b5, off5 + 4, none⟩ = some (.string y.atom) ∧ w'.cell? ⟨b5, off5 + 4 + 1, none⟩ = some (.slice o2 n2 c2)) :=
              fun w' h => ⟨(h.cell (lt_of_cell ca1)).trans ca1, (h.cell (lt_of_cell cb1)).trans cb1, (h.cell (lt_of_cell ca2)).trans ca2, (h.cell (lt_of_cell cb2)).trans cb2⟩
            have HR1 : Hid (∀ W, Below w3.heap.size w3 W → Rep W A x (.agg #[.string x.atom, .slice o1 n1 c1])) := fun W h => Rep.keep (Keeps.below h) _ _ r1
            have HR2 : Hid (∀ W, Below w3.heap.size w3 W → Rep W A y (.agg #[.string y.atom, .slice o2 n2 c2])) := fun W h => Rep.keep (Keeps.below h) _ _ r2
            have hbd : Below w3.heap.size w3 w3.drew := (Below.refl _ _).drew
            clear r1 r2 ca1 cb1 ca2 cb2 hc5 hs5 x1 y1 x2 y2
            go_wp2_with fail
            go_region_held3 (fun w' => w'.cell? ⟨b3, off3 + 4, none⟩ = some (.string x.atom) ∧ w'.cell? ⟨b3, off3 + 4 + 1, none⟩ = some (.slice o1 n1 c1) ∧ w'.cell? ⟨b5, off5 + 4, none⟩ = some (.string y.atom) ∧ w'.cell? ⟨b5, off5 + 4 + 1, none⟩ = some (.slice o2 n2 c2))
              (first | exact HS.out _ hbd | exact HS.out _ (by with_reducible assumption))
              (first
                | (go_at_call_of 38 (Tree.atom x); refine (HX.out _ _ ?_).mono ?_; (exact HR1.out _ hbd); rintro e w5 ⟨rfl, hb5⟩; have hBX := hbd.trans (hb5.mono hbd.size))
                | (go_at_call_of 38 (Tree.atom y); refine (HY.out _ _ ?_).mono ?_; (exact HR2.out _ hBX); rintro e w6 ⟨rfl, hb6⟩; have hBY := hBX.trans (hb6.mono hBX.size)))
            go_wp2
            go_ret
            exact ⟨congrArg (fun x => Ending.returned (.string x)) HT.out, HW.out _ _ hB3 hBY⟩
          · have HB : Hid (ByteArray.mk #[] = bts (Tree.node s [p, k]).bck) := by
              show _ = _
              rw [(src_none (hcd.trans (by simp only [code4]; rw [code3_none h3]))).2.2]; rfl
            have hl3 : ((k'.code.length : Int) != 3) = true := by simp; omega
            have hl4 : ¬ (k'.code.length : Int) = 3 := by omega
            clear h3 hcd hcg hcz hct hk' hgk' hzk' hg hgl ih ht hn hsz hs h4 hco
            go_enter Try.func38, Try.ntmps38
            go_wp2_with fail
            refine (HD.out _ _ (HR0.out _ (boxed B0).2.2.1)).mono ?_
            rintro e w1 ⟨rfl, hb1⟩
            obtain ⟨x1, y1, hB1, hl1⟩ := boxed (B0.next hb1)
            go_wp2_with fail
            refine (HCD.out _ _ (HR0.out _ hB1)).mono ?_
            rintro e w2 ⟨o3, c3, rfl, hs3, hb2⟩
            rw [HCO.out] at hs3 ⊢
            obtain ⟨x2, y2, hB2, hl2⟩ := boxed ((B0.next hb1).next hb2)
            obtain ⟨b3, off3, rfl, hA3, hc3⟩ := hs3.uncons
            obtain ⟨o4, n4, c4, ca4, cb4, r4⟩ := hc3.nth 3 (p := k') (k := off3 + 6) rfl rfl
            go_wp2_with fail
            refine (HCK.out _ _ r4).mono ?_
            rintro e w3 ⟨o5, c5, rfl, hs5, hb3⟩
            obtain ⟨x3, y3, hB3, hl3⟩ := boxed (((B0.next hb1).next hb2).next hb3)
            go_wp2
            go_ret
            exact ⟨congrArg (fun x => Ending.returned (.string x)) HB.out, hB3⟩
        · have HB : Hid (ByteArray.mk #[] = bts (Tree.node s [p, k]).bck) := by
            show _ = _
            rw [(src_none (hcd.trans (by rw [code4_none h4]))).2.2]; rfl
          have hl3 : (((Tree.node s [p, k]).code.length : Int) != 4) = true := by simp; omega
          have hl4 : ¬ ((Tree.node s [p, k]).code.length : Int) = 4 := by omega
          clear h4 hcd hcg hcz hct hg hgl ih ht hn hsz hs
          go_enter Try.func38, Try.ntmps38
          go_wp2_with fail
          refine (HD.out _ _ (HR0.out _ (boxed B0).2.2.1)).mono ?_
          rintro e w1 ⟨rfl, hb1⟩
          obtain ⟨x1, y1, hB1, hl1⟩ := boxed (B0.next hb1)
          go_wp2_with fail
          refine (HCD.out _ _ (HR0.out _ hB1)).mono ?_
          rintro e w2 ⟨o3, c3, rfl, hs3, hb2⟩
          obtain ⟨x2, y2, hB2, hl2⟩ := boxed ((B0.next hb1).next hb2)
          go_wp2
          go_ret
          exact ⟨congrArg (fun x => Ending.returned (.string x)) HB.out, hB2⟩
      · have htc := (target_tc he ht).2
        have q2 : (p.atom.toList == [101]) = false := by rw [Lib.toList_data]; simpa using he
        by_cases hp : p.atom.data.toList = [116]
        · have q1 : (p.atom.toList == [116]) = true := by rw [Lib.toList_data]; simpa using hp
          by_cases hl2 : ps.length = 2
          · obtain ⟨x, y, rfl⟩ : ∃ x y, ps = [x, y] := by
              match ps, hl2 with
              | [x, y], _ => exact ⟨x, y, rfl⟩
            obtain ⟨b, off, rfl, hA, hc⟩ := hs.uncons
            simp only [Tree.sz, Tree.szL] at hn hsz
            have hxs : (bts x.bck).size ≤ 240000 := by rw [bts_size]; have := bck_length _ x (Nat.le_refl _); omega
            have hys : (bts y.bck).size ≤ 240000 := by rw [bts_size]; have := bck_length _ y (Nat.le_refl _); omega
            have HX := Lib.hid (fun v w hr => ih x h A v w (by omega) hr (Tree.good_part _ 1 _ rfl hgl) (targetL_part (i := 0) htc rfl) (by omega))
            have HY := Lib.hid (fun v w hr => ih y h A v w (by omega) hr (Tree.good_part _ 2 _ rfl hgl) (targetL_part (i := 1) htc rfl) (by omega))
            have HT : Hid (ByteArray.mk #[40, 42, 32] ++ bts x.bck ++ ByteArray.mk #[32] ++ bts y.bck ++ ByteArray.mk #[41] = bts (Tree.node s [p, x, y]).bck) := by
              show _ = _
              rw [bts_two, (src_some (cut3_t s p x y hp)).2.2]
            have HRC : Hid (∀ W, Below w.heap.size w W → RepC W A [p, x, y] b off) := fun W h => RepC.keep (Keeps.below h) hA _ _ hc
            have HW : Hid (∀ w1 w' : World, Below w.heap.size w w1 → Below w1.heap.size w1 w' → Below w.heap.size w w') := fun w1 w' h h' => h.trans (h'.mono h.size)
            generalize bts x.bck = X at *
            generalize bts y.bck = Y at *
            generalize bts (Tree.node s [p, x, y]).bck = RES at *
            have k1 : ¬ 9223372036854775807 < 3 + X.size := by omega
            have k2 : ¬ 9223372036854775807 < 3 + X.size + 1 := by omega
            have k3 : ¬ 9223372036854775807 < 3 + X.size + 1 + Y.size := by omega
            have k4 : ¬ 9223372036854775807 < 3 + X.size + 1 + Y.size + 1 := by omega
            clear hc hs hgl hg ih ht hp he htc hl2 hn hsz HCD
            go_enter Try.func38, Try.ntmps38
            go_wp2_with fail
            refine (HD.out _ _ (HR0.out _ (boxed B0).2.2.1)).mono ?_
            rintro e w1 ⟨rfl, hb1⟩
            have hB1 := B0.next hb1
            obtain ⟨x1, y1, hw1, hl1⟩ := boxed hB1
            obtain ⟨o1, n1, c1, ca1, cb1, r1⟩ := (HRC.out _ hw1).nth 1 (p := x) (k := off + 2) rfl rfl
            obtain ⟨o2, n2, c2, ca2, cb2, r2⟩ := (HRC.out _ hw1).nth 2 (p := y) (k := off + 4) rfl rfl
            have HS : Hid (∀ w' : World, Below w1.heap.size w1 w' → w'.cell? ⟨w.heap.size, 0, none⟩ = some (.string s) ∧ w'.cell? ⟨w.heap.size, 1, none⟩ = some (.slice (some ⟨b, off, none⟩) 3 c) ∧ w'.cell? ⟨b, off + 2, none⟩ = some (.string x.atom) ∧ w'.cell? ⟨b, off + 2 + 1, none⟩ = some (.slice o1 n1 c1) ∧ w'.cell? ⟨b, off + 4, none⟩ = some (.string y.atom) ∧ w'.cell? ⟨b, off + 4 + 1, none⟩ = some (.slice o2 n2 c2)) :=
              fun w' h => ⟨(h.cell (lt_of_cell x1)).trans x1, (h.cell (lt_of_cell y1)).trans y1, (h.cell (lt_of_cell ca1)).trans ca1, (h.cell (lt_of_cell cb1)).trans cb1, (h.cell (lt_of_cell ca2)).trans ca2, (h.cell (lt_of_cell cb2)).trans cb2⟩
            have HR1 : Hid (∀ W, Below w1.heap.size w1 W → Rep W A x (.agg #[.string x.atom, .slice o1 n1 c1])) := fun W h => Rep.keep (Keeps.below h) _ _ r1
            have HR2 : Hid (∀ W, Below w1.heap.size w1 W → Rep W A y (.agg #[.string y.atom, .slice o2 n2 c2])) := fun W h => Rep.keep (Keeps.below h) _ _ r2
            have hbd : Below w1.heap.size w1 w1.drew := (Below.refl _ _).drew
            clear r1 r2 ca1 cb1 ca2 cb2 x1 y1
            obtain ⟨x1, y1, -⟩ := boxed hB1
            go_wp2_with fail
            go_region_held3 (fun w' => w'.cell? ⟨w.heap.size, 0, none⟩ = some (.string s) ∧ w'.cell? ⟨w.heap.size, 1, none⟩ = some (.slice (some ⟨b, off, none⟩) 3 c) ∧ w'.cell? ⟨b, off + 2, none⟩ = some (.string x.atom) ∧ w'.cell? ⟨b, off + 2 + 1, none⟩ = some (.slice o1 n1 c1) ∧ w'.cell? ⟨b, off + 4, none⟩ = some (.string y.atom) ∧ w'.cell? ⟨b, off + 4 + 1, none⟩ = some (.slice o2 n2 c2))
              (first | exact HS.out _ hbd | exact HS.out _ (by with_reducible assumption))
              (first
                | (go_at_call_of 38 (Tree.atom x); refine (HX.out _ _ ?_).mono ?_; (exact HR1.out _ hbd); rintro e w5 ⟨rfl, hb5⟩; have hBX := hbd.trans (hb5.mono hbd.size))
                | (go_at_call_of 38 (Tree.atom y); refine (HY.out _ _ ?_).mono ?_; (exact HR2.out _ hBX); rintro e w6 ⟨rfl, hb6⟩; have hBY := hBX.trans (hb6.mono hBX.size)))
            go_wp2
            go_ret
            exact ⟨congrArg (fun x => Ending.returned (.string x)) HT.out, HW.out _ _ hw1 hBY⟩
          · have HB : Hid (ByteArray.mk #[] = bts (Tree.node s (p :: ps)).bck) := by
              show _ = _
              rw [(src_none (cut3_not s p ps (fun _ => hl2) he)).2.2]; rfl
            have hl3 : ((((p :: ps).length : Nat) : Int) != 3) = true := by simp only [List.length_cons]; simp; omega
            have hl4 : ¬ (((p :: ps).length : Nat) : Int) = 3 := by simp only [List.length_cons]; omega
            clear hl2 hg hgl ih ht hp he htc hn hsz HCD hs
            generalize (p :: ps).length = L at *
            go_enter Try.func38, Try.ntmps38
            go_wp2_with fail
            refine (HD.out _ _ (HR0.out _ (boxed B0).2.2.1)).mono ?_
            rintro e w1 ⟨rfl, hb1⟩
            obtain ⟨x1, y1, hB1, hl1⟩ := boxed (B0.next hb1)
            go_wp2
            go_ret
            exact ⟨congrArg (fun x => Ending.returned (.string x)) HB.out, hB1⟩
        · have q1 : (p.atom.toList == [116]) = false := by rw [Lib.toList_data]; simpa using hp
          have HB : Hid (ByteArray.mk #[] = bts (Tree.node s (p :: ps)).bck) := by
            show _ = _
            rw [(src_none (cut3_not s p ps (fun h => absurd h hp) he)).2.2]; rfl
          clear hg hgl ih ht hp he htc hn hsz HCD hs
          go_enter Try.func38, Try.ntmps38
          go_wp2_with fail
          refine (HD.out _ _ (HR0.out _ (boxed B0).2.2.1)).mono ?_
          rintro e w1 ⟨rfl, hb1⟩
          obtain ⟨x1, y1, hB1, hl1⟩ := boxed (B0.next hb1)
          go_wp2
          go_ret
          exact ⟨congrArg (fun x => Ending.returned (.string x)) HB.out, hB1⟩
end Go.Proofs.Ytcobcmgmleblkaa
