/- The contracts of the functions on types, of the program and of the reference. -/
import Derived.Test.YtoihkjnfklogpaaQ3
namespace Go.Proofs.Ytoihkjnfklogpaa
open Go.RowKit

set_option maxRecDepth 100000 in
set_option maxHeartbeats 400000 in
theorem head_any (t : Tree) (A : Nat → Prop) (v : Value) (w : World) (hr : Rep w A t v) (hln : t.parts.length ≤ 1000000000) :
    Calls Try.prog 32 #[v] w fun e w' => e = .returned (.string t.hd) ∧ Below w.heap.size w w' := by
  obtain ⟨s, ps⟩ := t
  simp only [Rep] at hr
  obtain ⟨o, l, c, rfl, hs, hcap⟩ := hr
  obtain rfl := hs.len
  cases ps with
  | nil =>
    have B0 := boxed0 w (.string s) (.slice o 0 c) 46
    go_enter Try.func32, Try.ntmps32
    go_wp2_with (go_at_call 54; refine (isAtom_any _ _ _ _ _).mono ?_; rintro e w1 ⟨rfl, hb1⟩)
    go_ret
    exact ⟨rfl, (boxed (B0.next hb1)).2.2.1⟩
  | cons p ps =>
    have B0 := boxed0 w (.string s) (.slice o (p :: ps).length c) 46
    obtain ⟨b, off, rfl, hA, hc⟩ := hs.uncons
    have hlen : (((p :: ps).length : Int) == 0) = false := by simp only [List.length_cons, beq_eq_false_iff_ne, ne_eq]; omega
    have hlp : 0 < (p :: ps).length := by simp
    simp only [Tree.parts] at hln
    generalize (p :: ps).length = l at *
    go_enter Try.func32, Try.ntmps32
    go_wp2_with fail
    refine (isAtom_any _ _ _ _ _).mono ?_
    rintro e w1 ⟨rfl, hb1⟩
    have B1 := Below.next B0 hb1; obtain ⟨x1, y1, hB1, hl1⟩ := boxed B1; clear hb1
    obtain ⟨o1, n1, c1, hx1, hy1, hr1, -⟩ := (RepC.keep (Keeps.below hB1) hA _ _ hc).uncons
    go_wp2
    go_ret
    exact ⟨rfl, hB1⟩

/-- Has a form just z parts, and this head? -/
def isZ (t : Tree) (h : ByteArray) (z : Int) : Bool := decide ((t.parts.length : Int) = z) && (t.hd.toList == h.toList)

set_option maxRecDepth 100000 in
set_option maxHeartbeats 400000 in
theorem is_any (t : Tree) (A : Nat → Prop) (v : Value) (w : World) (h : ByteArray) (z : Int) (hr : Rep w A t v) (hln : t.parts.length ≤ 1000000000) :
    Calls Try.prog 53 #[v, .string h, .int .i64 z] w fun e w' => e = .returned (.bool (isZ t h z)) ∧ Below w.heap.size w w' := by
  have HC := Lib.hid (fun v w hr => head_any t A v w hr hln)
  generalize hhd : t.hd = q at HC
  have hz : isZ t h z = (decide ((t.parts.length : Int) = z) && (q.toList == h.toList)) := by unfold isZ; rw [hhd]
  rw [hz]
  clear hz hhd
  obtain ⟨s, ps⟩ := t
  have hr' := hr
  simp only [Rep] at hr
  obtain ⟨o, l, c, rfl, hs, hcap⟩ := hr
  obtain rfl := hs.len
  simp only [Tree.parts] at hln ⊢
  have B0 := boxed0 w (.string s) (.slice o ps.length c) 46
  by_cases hlz : (ps.length : Int) = z
  · subst hlz
    go_enter Try.func53, Try.ntmps53
    go_wp2_with fail
    refine (HC.out _ _ (Rep.keep (Keeps.alloc _ _ _) _ _ hr')).mono ?_
    rintro e w1 ⟨rfl, hb1⟩
    have B1 := Below.next B0 hb1; obtain ⟨x1, y1, hB1, hl1⟩ := boxed B1; clear hb1
    go_wp2
    go_ret
    exact ⟨ret_bool (by simp), hB1⟩
  · have hlb : ((ps.length : Int) == z) = false := by simpa using hlz
    go_enter Try.func53, Try.ntmps53
    go_wp2
    go_ret
    exact ⟨ret_bool (by simp [hlz]), (boxed B0).2.2.1⟩

theorem isZ_len {t : Tree} {h : ByteArray} {z : Int} (hl : (t.parts.length : Int) ≠ z) : isZ t h z = false := by unfold isZ; simp [hl]

theorem isZ_three (a : ByteArray) (p x y : Tree) (h : ByteArray) : isZ (.node a [p, x, y]) h 3 = decide (p.atom.data.toList = h.data.toList) := by
  unfold isZ Tree.hd Tree.parts
  rw [Lib.toList_data, Lib.toList_data, Bool.eq_iff_iff]; simp

theorem isType_len {a : ByteArray} {ps : List Tree} (h0 : ps.length ≠ 0) (h3 : ps.length ≠ 3) : (Tree.node a ps).isType = false := by
  match ps, h0, h3 with
  | [], h0, _ => simp at h0
  | [_], _, _ => simp [Tree.isType]
  | [_, _], _, _ => simp [Tree.isType]
  | [_, _, _], _, h3 => simp at h3
  | _ :: _ :: _ :: _ :: _, _, _ => simp [Tree.isType]

set_option maxRecDepth 100000 in
set_option maxHeartbeats 1600000 in
theorem isType_any (n : Nat) : ∀ (t : Tree) (A : Nat → Prop) (v : Value) (w : World), t.sz ≤ n → Rep w A t v → t.sz ≤ 1000000000 →
    Calls Try.prog 119 #[v] w fun e w' => e = .returned (.bool t.isType) ∧ Below w.heap.size w w' := by
  induction n with
  | zero => intro t A v w h; cases t; simp [Tree.sz] at h
  | succ n ih =>
    intro t A v w hn hr hb
    have hln : t.parts.length ≤ 1000000000 := by cases t with | node a ps => have := Tree.length_le_szL ps; simp only [Tree.sz, Tree.parts] at *; omega
    have HIS := Lib.hid (fun h z v w hr => is_any t A v w h z hr hln)
    obtain ⟨s, ps⟩ := t
    have hr' := hr
    simp only [Rep] at hr
    obtain ⟨o, l, c, rfl, hs, hcap⟩ := hr
    obtain rfl := hs.len
    have B0 := boxed0 w (.string s) (.slice o ps.length c) 46
    by_cases hp : ps = []
    · subst hp
      have ht : (Tree.node s []).isType = (s.toList == [105]) := by rw [Lib.toList_data, Bool.eq_iff_iff]; simp [Tree.isType]
      have HT := Lib.hid ht
      clear ht
      go_enter Try.func119, Try.ntmps119
      go_wp2_with fail
      refine (isAtom_any _ _ _ _ _).mono ?_
      rintro e w1 ⟨rfl, hb1⟩
      have B1 := Below.next B0 hb1; obtain ⟨x1, y1, hB1, hl1⟩ := boxed B1; clear hb1
      go_wp2
      go_ret
      exact ⟨ret_bool HT.out.symm, hB1⟩
    · have hlen : ((ps.length : Int) == 0) = false := by simpa using hp
      by_cases h3 : ps.length = 3
      · obtain ⟨p, x, y, rfl⟩ : ∃ p x y, ps = [p, x, y] := by
          match ps, h3 with
          | [p, x, y], _ => exact ⟨p, x, y, rfl⟩
        obtain ⟨b, off, rfl, hA, hc⟩ := hs.uncons
        have hsx : x.sz ≤ n ∧ y.sz ≤ n ∧ x.sz ≤ 1000000000 ∧ y.sz ≤ 1000000000 := by simp only [Tree.sz, Tree.szL] at hn hb; omega
        obtain ⟨hx1, hx2, hx3, hx4⟩ := hsx
        clear hlen h3 hp hs
        have hz1 := isZ_three s p x y ⟨#[62]⟩
        have hz2 := isZ_three s p x y ⟨#[42]⟩
        have ht : (Tree.node s [p, x, y]).isType = ((decide (p.atom.data.toList = [62]) || decide (p.atom.data.toList = [42])) && x.isType && y.isType) := by simp [Tree.isType]
        have HT := Lib.hid ht
        clear ht
        by_cases h62 : p.atom.data.toList = [62]
        · have e1 : isZ (.node s [p, x, y]) ⟨#[62]⟩ 3 = true := by rw [hz1]; simpa using h62
          have e2 : (Tree.node s [p, x, y]).isType = (x.isType && y.isType) := by rw [HT.out]; simp [h62]
          have H2 := Lib.hid e2
          clear hz1 hz2 h62 HT e2
          go_enter Try.func119, Try.ntmps119
          go_wp2_with fail
          refine (isAtom_any _ _ _ _ _).mono ?_
          rintro e w1 ⟨rfl, hb1⟩
          have B1 := Below.next B0 hb1; obtain ⟨x1, y1, hB1, hl1⟩ := boxed B1; clear hb1
          go_wp2_with fail
          refine (HIS.out _ _ _ _ (Rep.keep (Keeps.below hB1) _ _ hr')).mono ?_
          rintro e w2 ⟨rfl, hb2⟩
          have B2 := Below.next B1 hb2; obtain ⟨x2, y2, hB2, hl2⟩ := boxed B2; clear hb2
          obtain ⟨o1, n1, c1, ca1, cb1, r1⟩ := (RepC.keep (Keeps.below hB2) hA _ _ hc).nth 1 (k := off + 2) rfl rfl
          go_wp2_with fail
          refine (ih _ _ _ _ hx1 r1 hx3).mono ?_
          rintro e w3 ⟨rfl, hb3⟩
          have B3 := Below.next B2 hb3; obtain ⟨x3, y3, hB3, hl3⟩ := boxed B3; clear hb3
          obtain ⟨o2, n2, c2, ca2, cb2, r2⟩ := (RepC.keep (Keeps.below hB3) hA _ _ hc).nth 2 (k := off + 4) rfl rfl
          generalize x.isType = bx at *
          cases bx
          · go_wp2
            go_ret
            exact ⟨ret_bool (by rw [H2.out]; rfl), hB3⟩
          · go_wp2_with fail
            refine (ih _ _ _ _ hx2 r2 hx4).mono ?_
            rintro e w4 ⟨rfl, hb4⟩
            have B4 := Below.next B3 hb4; obtain ⟨x4, y4, hB4, hl4⟩ := boxed B4; clear hb4
            go_wp2
            go_ret
            exact ⟨ret_bool (by rw [H2.out]; rfl), hB4⟩
        · have e1 : isZ (.node s [p, x, y]) ⟨#[62]⟩ 3 = false := by rw [hz1]; simpa using h62
          by_cases h42 : p.atom.data.toList = [42]
          · have e3 : isZ (.node s [p, x, y]) ⟨#[42]⟩ 3 = true := by rw [hz2]; simpa using h42
            have e2 : (Tree.node s [p, x, y]).isType = (x.isType && y.isType) := by rw [HT.out]; simp [h42]
            have H2 := Lib.hid e2
            clear hz1 hz2 h62 h42 HT e2
            go_enter Try.func119, Try.ntmps119
            go_wp2_with fail
            refine (isAtom_any _ _ _ _ _).mono ?_
            rintro e w1 ⟨rfl, hb1⟩
            have B1 := Below.next B0 hb1; obtain ⟨x1, y1, hB1, hl1⟩ := boxed B1; clear hb1
            go_wp2_with fail
            refine (HIS.out _ _ _ _ (Rep.keep (Keeps.below hB1) _ _ hr')).mono ?_
            rintro e w2 ⟨rfl, hb2⟩
            have B2 := Below.next B1 hb2; obtain ⟨x2, y2, hB2, hl2⟩ := boxed B2; clear hb2
            go_wp2_with fail
            refine (HIS.out _ _ _ _ (Rep.keep (Keeps.below hB2) _ _ hr')).mono ?_
            rintro e w3 ⟨rfl, hb3⟩
            have B3 := Below.next B2 hb3; obtain ⟨x3, y3, hB3, hl3⟩ := boxed B3; clear hb3
            obtain ⟨o1, n1, c1, ca1, cb1, r1⟩ := (RepC.keep (Keeps.below hB3) hA _ _ hc).nth 1 (k := off + 2) rfl rfl
            go_wp2_with fail
            refine (ih _ _ _ _ hx1 r1 hx3).mono ?_
            rintro e w4 ⟨rfl, hb4⟩
            have B4 := Below.next B3 hb4; obtain ⟨x4, y4, hB4, hl4⟩ := boxed B4; clear hb4
            obtain ⟨o2, n2, c2, ca2, cb2, r2⟩ := (RepC.keep (Keeps.below hB4) hA _ _ hc).nth 2 (k := off + 4) rfl rfl
            generalize x.isType = bx at *
            cases bx
            · go_wp2
              go_ret
              exact ⟨ret_bool (by rw [H2.out]; rfl), hB4⟩
            · go_wp2_with fail
              refine (ih _ _ _ _ hx2 r2 hx4).mono ?_
              rintro e w5 ⟨rfl, hb5⟩
              have B5 := Below.next B4 hb5; obtain ⟨x5, y5, hB5, hl5⟩ := boxed B5; clear hb5
              go_wp2
              go_ret
              exact ⟨ret_bool (by rw [H2.out]; rfl), hB5⟩
          · have e3 : isZ (.node s [p, x, y]) ⟨#[42]⟩ 3 = false := by rw [hz2]; simpa using h42
            have e2 : (Tree.node s [p, x, y]).isType = false := by rw [HT.out]; simp [h62, h42]
            have H2 := Lib.hid e2
            clear hz1 hz2 h62 h42 HT e2
            go_enter Try.func119, Try.ntmps119
            go_wp2_with fail
            refine (isAtom_any _ _ _ _ _).mono ?_
            rintro e w1 ⟨rfl, hb1⟩
            have B1 := Below.next B0 hb1; obtain ⟨x1, y1, hB1, hl1⟩ := boxed B1; clear hb1
            go_wp2_with fail
            refine (HIS.out _ _ _ _ (Rep.keep (Keeps.below hB1) _ _ hr')).mono ?_
            rintro e w2 ⟨rfl, hb2⟩
            have B2 := Below.next B1 hb2; obtain ⟨x2, y2, hB2, hl2⟩ := boxed B2; clear hb2
            go_wp2_with fail
            refine (HIS.out _ _ _ _ (Rep.keep (Keeps.below hB2) _ _ hr')).mono ?_
            rintro e w3 ⟨rfl, hb3⟩
            have B3 := Below.next B2 hb3; obtain ⟨x3, y3, hB3, hl3⟩ := boxed B3; clear hb3
            go_wp2
            go_ret
            exact ⟨ret_bool H2.out.symm, hB3⟩
      · have e1 : isZ (.node s ps) ⟨#[62]⟩ 3 = false := isZ_len (by simp only [Tree.parts]; omega)
        have e3 : isZ (.node s ps) ⟨#[42]⟩ 3 = false := isZ_len (by simp only [Tree.parts]; omega)
        have H2 := Lib.hid (isType_len (a := s) (ps := ps) (by simpa using hp) h3)
        clear h3 hp
        go_enter Try.func119, Try.ntmps119
        go_wp2_with fail
        refine (isAtom_any _ _ _ _ _).mono ?_
        rintro e w1 ⟨rfl, hb1⟩
        have B1 := Below.next B0 hb1; obtain ⟨x1, y1, hB1, hl1⟩ := boxed B1; clear hb1
        go_wp2_with fail
        refine (HIS.out _ _ _ _ (Rep.keep (Keeps.below hB1) _ _ hr')).mono ?_
        rintro e w2 ⟨rfl, hb2⟩
        have B2 := Below.next B1 hb2; obtain ⟨x2, y2, hB2, hl2⟩ := boxed B2; clear hb2
        go_wp2_with fail
        refine (HIS.out _ _ _ _ (Rep.keep (Keeps.below hB2) _ _ hr')).mono ?_
        rintro e w3 ⟨rfl, hb3⟩
        have B3 := Below.next B2 hb3; obtain ⟨x3, y3, hB3, hl3⟩ := boxed B3; clear hb3
        go_wp2
        go_ret
        exact ⟨ret_bool H2.out.symm, hB3⟩
end Go.Proofs.Ytoihkjnfklogpaa
