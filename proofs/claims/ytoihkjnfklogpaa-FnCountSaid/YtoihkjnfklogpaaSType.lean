/- The contracts of the reference's functions on types. -/
import Derived.Test.YtoihkjnfklogpaaOrder
namespace Go.Proofs.Ytoihkjnfklogpaa
open Go.RowKit

set_option maxRecDepth 100000 in
set_option maxHeartbeats 1600000 in
theorem l1Type_any (n : Nat) : ∀ (t : Tree) (A : Nat → Prop) (v : Value) (w : World), t.sz ≤ n → Rep w A t v → t.sz ≤ 1000000000 → t.good = true →
    Calls Try.prog 101 #[v] w fun e w' => e = .returned (.bool t.isType) ∧ Below w.heap.size w w' := by
  induction n with
  | zero => intro t A v w h; cases t; simp [Tree.sz] at h
  | succ n ih =>
    intro t A v w hn hr hb hgood
    obtain ⟨s, ps⟩ := t
    simp only [Rep] at hr
    obtain ⟨o, l, c, rfl, hs, hcap⟩ := hr
    obtain rfl := hs.len
    obtain ⟨hgl, hge⟩ := Tree.good_parts hgood
    have B0 := boxed0 w (.string s) (.slice o ps.length c) 40
    obtain ⟨x0, y0, hB0, hl0⟩ := boxed B0
    by_cases hp : ps = []
    · subst hp
      have hemp : s.toList.isEmpty = false := by rw [Lib.toList_data]; simpa using hge.1 rfl
      have ht : (Tree.node s []).isType = (s.toList == [105]) := by rw [Lib.toList_data, Bool.eq_iff_iff]; simp [Tree.isType]
      have HT := Lib.hid ht
      clear ht hge
      go_enter Try.func101, Try.ntmps101
      go_wp2
      go_ret
      exact ⟨ret_bool HT.out.symm, hB0⟩
    · have hemp : s.toList.isEmpty = true := by rw [Lib.toList_data]; have : s.data.toList = [] := Classical.byContradiction fun h => hp (hge.2 h); rw [this]; rfl
      by_cases h3 : ps.length = 3
      · obtain ⟨p, x, y, rfl⟩ : ∃ p x y, ps = [p, x, y] := by
          match ps, h3 with
          | [p, x, y], _ => exact ⟨p, x, y, rfl⟩
        obtain ⟨b, off, rfl, hA, hc⟩ := hs.uncons
        have B0 := boxed0 w (.string s) (.slice (some ⟨b, off, none⟩) 3 c) 40
        obtain ⟨x0, y0, hB0, hl0⟩ := boxed B0
        have hsx : x.sz ≤ n ∧ y.sz ≤ n ∧ x.sz ≤ 1000000000 ∧ y.sz ≤ 1000000000 := by simp only [Tree.sz, Tree.szL] at hn hb; omega
        obtain ⟨hx1, hx2, hx3, hx4⟩ := hsx
        have hgx : x.good = true ∧ y.good = true := by simp only [Tree.goodL, Bool.and_eq_true] at hgl; exact ⟨hgl.2.1, hgl.2.2.1⟩
        obtain ⟨hgx, hgy⟩ := hgx
        have HX := Lib.hid (fun v w hr => ih x A v w hx1 hr hx3 hgx)
        have HY := Lib.hid (fun v w hr => ih y A v w hx2 hr hx4 hgy)
        obtain ⟨o0, n0, c0, ca0, cb0, r0⟩ := (RepC.keep (Keeps.below hB0) hA _ _ hc).nth 0 (k := off) rfl rfl
        obtain ⟨o1, n1, c1, ca1, cb1, r1⟩ := (RepC.keep (Keeps.below hB0) hA _ _ hc).nth 1 (k := off + 2) rfl rfl
        clear ih hgx hgy hge hgl h3 hp hs hgood
        have ht : (Tree.node s [p, x, y]).isType = ((decide (p.atom.data.toList = [62]) || decide (p.atom.data.toList = [42])) && x.isType && y.isType) := by simp [Tree.isType]
        have HT := Lib.hid ht
        clear ht
        by_cases h62 : p.atom.data.toList = [62]
        · have e1 : (p.atom.toList == [62]) = true := by rw [Lib.toList_data]; simpa using h62
          have H2 := Lib.hid (show (Tree.node s [p, x, y]).isType = (x.isType && y.isType) from by rw [HT.out]; simp [h62])
          clear h62 HT
          go_enter Try.func101, Try.ntmps101
          go_wp2_with fail
          refine (HX.out _ _ r1).mono ?_
          rintro e w1 ⟨rfl, hb1⟩
          have B1 := Below.next B0 hb1; obtain ⟨x1, y1, hB1, hl1⟩ := boxed B1; clear hb1
          obtain ⟨o2, n2, c2, ca2, cb2, r2⟩ := (RepC.keep (Keeps.below hB1) hA _ _ hc).nth 2 (k := off + 4) rfl rfl
          generalize x.isType = bx at *
          cases bx
          · go_wp2
            go_ret
            exact ⟨ret_bool (by rw [H2.out]; rfl), hB1⟩
          · go_wp2_with fail
            refine (HY.out _ _ r2).mono ?_
            rintro e w2 ⟨rfl, hb2⟩
            have B2 := Below.next B1 hb2; obtain ⟨x2, y2, hB2, hl2⟩ := boxed B2; clear hb2
            go_wp2
            go_ret
            exact ⟨ret_bool (by rw [H2.out]; rfl), hB2⟩
        · have e1 : (p.atom.toList == [62]) = false := by rw [Lib.toList_data]; simpa using h62
          by_cases h42 : p.atom.data.toList = [42]
          · have e3 : (p.atom.toList == [42]) = true := by rw [Lib.toList_data]; simpa using h42
            have H2 := Lib.hid (show (Tree.node s [p, x, y]).isType = (x.isType && y.isType) from by rw [HT.out]; simp [h42])
            clear h62 h42 HT
            go_enter Try.func101, Try.ntmps101
            go_wp2_with fail
            refine (HX.out _ _ r1).mono ?_
            rintro e w1 ⟨rfl, hb1⟩
            have B1 := Below.next B0 hb1; obtain ⟨x1, y1, hB1, hl1⟩ := boxed B1; clear hb1
            obtain ⟨o2, n2, c2, ca2, cb2, r2⟩ := (RepC.keep (Keeps.below hB1) hA _ _ hc).nth 2 (k := off + 4) rfl rfl
            generalize x.isType = bx at *
            cases bx
            · go_wp2
              go_ret
              exact ⟨ret_bool (by rw [H2.out]; rfl), hB1⟩
            · go_wp2_with fail
              refine (HY.out _ _ r2).mono ?_
              rintro e w2 ⟨rfl, hb2⟩
              have B2 := Below.next B1 hb2; obtain ⟨x2, y2, hB2, hl2⟩ := boxed B2; clear hb2
              go_wp2
              go_ret
              exact ⟨ret_bool (by rw [H2.out]; rfl), hB2⟩
          · have e3 : (p.atom.toList == [42]) = false := by rw [Lib.toList_data]; simpa using h42
            have H2 := Lib.hid (show (Tree.node s [p, x, y]).isType = false from by rw [HT.out]; simp [h62, h42])
            clear h62 h42 HT
            go_enter Try.func101, Try.ntmps101
            go_wp2
            go_ret
            exact ⟨ret_bool H2.out.symm, hB0⟩
      · have H2 := Lib.hid (isType_len (a := s) (ps := ps) (by simpa using hp) h3)
        have hlz : ((ps.length : Int) != 3) = true := by rw [bne_iff_ne]; omega
        clear h3 hp hge
        go_enter Try.func101, Try.ntmps101
        go_wp2
        go_ret
        exact ⟨ret_bool H2.out.symm, hB0⟩

set_option maxRecDepth 100000 in
set_option maxHeartbeats 400000 in
theorem l1Typed_any (t : Tree) (A : Nat → Prop) (v : Value) (w : World) (hr : Rep w A t v) (hb : t.sz ≤ 1000000000) (hg : t.good = true) :
    Calls Try.prog 80 #[v] w fun e w' => e = .returned (.bool t.typed) ∧ Below w.heap.size w w' := by
  have HT := Lib.hid (fun v w hr => l1Type_any _ t A v w (Nat.le_refl _) hr hb hg)
  have HZ := Lib.hid (fun v w hr => l1Size_any _ t A v w (Nat.le_refl _) hr hb hg)
  have hsz := Tree.size_le_sz t
  have hd : t.typed = (t.isType && decide ((t.size : Int) ≤ 16)) := by unfold Tree.typed; rw [Bool.eq_iff_iff]; simp; omega
  rw [hd]
  clear hd hg
  generalize t.isType = b at *
  generalize t.size = z at *
  obtain ⟨s, ps⟩ := t
  have hr' := hr
  simp only [Rep] at hr
  obtain ⟨o, l, c, rfl, hs, hcap⟩ := hr
  obtain rfl := hs.len
  have B0 := boxed0 w (.string s) (.slice o ps.length c) 40
  go_enter Try.func80, Try.ntmps80
  go_wp2_with fail
  refine (HT.out _ _ (Rep.keep (Keeps.alloc _ _ _) _ _ hr')).mono ?_
  rintro e w1 ⟨rfl, hb1⟩
  have B1 := Below.next B0 hb1; obtain ⟨x1, y1, hB1, hl1⟩ := boxed B1; clear hb1
  cases b
  · go_wp2
    go_ret
    exact ⟨rfl, hB1⟩
  · go_wp2_with fail
    refine (HZ.out _ _ (Rep.keep (Keeps.below hB1) _ _ hr')).mono ?_
    rintro e w2 ⟨rfl, hb2⟩
    have B2 := Below.next B1 hb2; obtain ⟨x2, y2, hB2, hl2⟩ := boxed B2; clear hb2
    go_wp2
    go_ret
    exact ⟨rfl, hB2⟩


theorem ptype_isSome (s : List UInt8) : (ptype s).isSome = (match parse s with | some t => t.typed | none => false) := by
  unfold ptype
  cases parse s with
  | none => rfl
  | some t => cases h : t.typed <;> simp [h]




end Go.Proofs.Ytoihkjnfklogpaa
