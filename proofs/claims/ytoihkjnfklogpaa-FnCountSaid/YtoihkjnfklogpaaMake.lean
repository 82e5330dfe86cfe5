/- Texts and lengths of forms, the parts of a form, of the program and of the reference. -/
import Derived.Test.YtoihkjnfklogpaaText
import Derived.Test.YtoihkjnfklogpaaStrs
import Derived.Test.YtoihkjnfklogpaaQ3
import Derived.Test.YtoihkjnfklogpaaAtoms
namespace Go.Proofs.Ytoihkjnfklogpaa
open Go.RowKit

set_option maxRecDepth 100000 in
set_option maxHeartbeats 800000 in
theorem text_any (t : Tree) (A : Nat → Prop) (v : Value) (w : World) (hr : Rep w A t v) (hb : t.sz ≤ 1000000000) (htx : t.text.length ≤ 1000000000) :
    Calls Try.prog 33 #[v] w fun e w' => e = .returned (.string (bts t.text)) ∧ Below w.heap.size w w' := by
  obtain ⟨s, ps⟩ := t
  have hr' := Rep.bound _ _ hr
  simp only [Rep] at hr'
  obtain ⟨o, l, c, rfl, hs, hcap⟩ := hr'
  have hr0 := Rep.bound _ _ hr
  have bel0 : Below w.heap.size w (w.alloc (.cells #[.string s, .slice o l c] 46)) := (Below.refl _ _).alloc (Nat.le_refl _) _
  have hI : Lib.IsBuilderF 69 5 (w.heap.size + 1) (w.heap.size + 1) (Lib.byteCells []) ((w.alloc (.cells #[.string s, .slice o l c] 46)).alloc (.cells #[.pointer none, .slice none 0 0] 69)) := by
    have := Lib.fresh_isBuilder 69 5 (w.alloc (.cells #[.string s, .slice o l c] 46))
    rw [World.size_alloc] at this
    exact Lib.IsBuilderF.of this
  have bel1 := bel0.alloc (by simp) (.cells #[.pointer none, .slice none 0 0] 69)
  have HC := Lib.hid (write_any (w.heap.size + 1) (w.heap.size + 1) _ _ _ _ _ _ (Nat.le_refl _) (Rep.keep (Keeps.below bel1) _ _ hr0) (fun b hb => by omega) hI (by simp) (by simpa using htx) hb)
  rw [List.nil_append] at HC
  generalize (Tree.node s ps).text = tx at *
  have HB := Lib.hid bel1
  clear hI hr hr0 hs bel0 bel1
  go_enter Try.func33, Try.ntmps33
  go_wp2_with fail
  refine HC.out.mono ?_
  rintro e w2 ⟨rfl, hI2, hb2, -⟩
  have HD := Lib.hid (string_k (w.heap.size + 1) (w.heap.size + 1) tx w2 hI2 (by have := hb2.size; simp at this; omega))
  have HB2 := Lib.hid (HB.out.trans (hb2.mono (by omega)))
  clear hI2 hb2 HC
  go_wp2_with fail
  refine HD.out.mono ?_
  rintro e w3 ⟨rfl, -, hb3, -⟩
  go_wp2
  go_ret
  exact ⟨rfl, HB2.out.trans (hb3.mono (by omega))⟩

set_option maxRecDepth 100000 in
set_option maxHeartbeats 400000 in
theorem length_any (n : Nat) : ∀ (t : Tree) (A : Nat → Prop) (v : Value) (w : World), t.sz ≤ n → Rep w A t v → t.text.length ≤ 1000000000 → t.sz ≤ 1000000000 →
    Calls Try.prog 109 #[v] w fun e w' => e = .returned (.int .i64 t.text.length) ∧ Below w.heap.size w w' := by
  induction n with
  | zero => intro t A v w h; cases t; simp [Tree.sz] at h
  | succ n ih =>
    intro t A v w hn hr htx hb
    obtain ⟨s, ps⟩ := t
    simp only [Rep] at hr
    obtain ⟨o, l, c, rfl, hs, hcap⟩ := hr
    obtain rfl := hs.len
    have hB0 : Below w.heap.size w (w.alloc (.cells #[.string s, .slice o ps.length c] 46)) := (Below.refl _ _).alloc (Nat.le_refl _) _
    by_cases hp : ps = []
    · subst hp
      have HT : Hid ((Tree.node s []).text.length = s.size) := by show _ = _; rw [text_leaf, size_data]
      rw [HT.out]
      go_enter Try.func109, Try.ntmps109
      go_wp2_with fail
      refine (isAtom_any _ _ _ _ _).mono ?_
      rintro e w1 ⟨rfl, hb1⟩
      obtain ⟨c0, c1⟩ := box_cells (box_at hb1)
      go_wp2
      go_ret
      exact ⟨rfl, hB0.trans (hb1.mono (by simp))⟩
    · have hlen : ((ps.length : Int) == 0) = false := by simpa using hp
      have hT : (Tree.node s ps).text.length = (Tree.opened 0 ps).length + 1 := by rw [text_of_opened s ps hp]; simp
      have HT := Lib.hid hT
      rw [hT] at htx
      rw [HT.out]
      have hb2 := Tree.length_le_szL ps
      simp only [Tree.sz] at hb hn
      clear HT hT hp
      go_enter Try.func109, Try.ntmps109
      go_wp2_with fail
      refine (isAtom_any _ _ _ _ _).mono ?_
      rintro e w1 ⟨rfl, hb1⟩
      obtain ⟨c0, c1⟩ := box_cells (box_at hb1)
      have hB1 : Below w.heap.size w w1 := hB0.trans (hb1.mono (by simp))
      clear hb1
      go_wp2
      go_loopw [3, 14] (fun m i wr => ∃ k : Nat, k ≤ ps.length ∧ i = .int .i64 k ∧ m = .int .i64 (((Tree.opened 0 (ps.take k)).length + 1 : Nat) : Int) ∧ Below w.heap.size w wr) (fun _ i _ => ps.length - (intOf i).toNat)
      case atStart => exact ⟨0, Nat.zero_le _, rfl, rfl, hB1⟩
      case round =>
        obtain ⟨k, hk, rfl, rfl, hbr⟩ := hrel
        by_cases hlt : k < ps.length
        · obtain ⟨p, hp⟩ : ∃ p, ps[k]? = some p := ⟨ps[k], by simp [hlt]⟩
          obtain ⟨b, off, o', n', c', rfl, -, hx, hy, hrp⟩ := (RepS.keep (Keeps.below hbr) _ _ _ hs).partAt hp
          have h1 := congrArg List.length (opened_take ps 0 k p hp)
          simp only [List.length_append, List.length_cons] at h1
          have h2 := opened_take_le ps 0 (k + 1)
          have h3 : p.sz ≤ n := by have := Tree.sz_part ps k p hp; omega
          have h4 : p.sz ≤ 1000000000 := by have := Tree.sz_part ps k p hp; omega
          have HC := Lib.hid (ih _ A _ (wr.alloc (.cells #[.string p.atom, .slice o' n' c'] 46)) h3 (Rep.keep (Keeps.alloc _ _ _) _ _ hrp) (by omega) h4)
          have HT := Lib.hid h1
          have h6 : p.text.length ≤ 1000000000 := by omega
          have h7 : (Tree.opened 0 (ps.take k)).length + 1 ≤ 1000000000 := by omega
          generalize (Tree.opened 0 (ps.take k)).length = Y at HT h7
          generalize p.text.length = Z at HT HC h6
          clear h1 h2 h3 h4 hp ih
          go_wp2_with fail
          refine HC.out.mono ?_
          rintro e w1 ⟨rfl, hb2⟩
          go_wp2
          go_roundw
          case rel => exact ⟨k + 1, by omega, by go_num, by rw [HT.out]; go_num, (hbr.alloc hbr.size _).trans (hb2.mono (by have := hbr.size; simp; omega))⟩
          case measure => simp [intOf]; omega
        · go_wp2
          go_ret
          obtain rfl : k = ps.length := by omega
          exact ⟨by simp, hbr⟩

theorem fits_any (t : Tree) (A : Nat → Prop) (v : Value) (w : World) (hr : Rep w A t v) (hb : t.sz ≤ 1000000000) (htx : t.text.length ≤ 1000000000) :
    Calls Try.prog 88 #[v] w fun e w' => e = .returned (.bool (decide (t.depth ≤ 60) && decide (t.text.length ≤ 12000))) ∧ Below w.heap.size w w' := by
  obtain ⟨s, ps⟩ := t
  have hr0 := hr
  simp only [Rep] at hr
  obtain ⟨o, l, c, rfl, hs, hcap⟩ := hr
  have bel0 : Below w.heap.size w (w.alloc (.cells #[.string s, .slice o l c] 46)) := (Below.refl _ _).alloc (Nat.le_refl _) _
  have HC := Lib.hid (depth_any _ _ _ _ _ (Nat.le_refl _) (Rep.keep (Keeps.alloc _ _ (.cells #[.string s, .slice o l c] 46)) _ _ hr0) hb)
  have HD := Lib.hid (fun w2 (h : Below w.heap.size w w2) => length_any _ _ _ _ w2 (Nat.le_refl _) (Rep.keep (Keeps.below h) _ _ hr0) htx hb)
  have hd := Tree.depth_le_sz (Tree.node s ps)
  generalize (Tree.node s ps).text.length = L at *
  generalize (Tree.node s ps).depth = D at *
  clear hr0 hs
  by_cases h60 : D ≤ 60
  · have h1 : decide ((D : Int) ≤ 60) = true := by simp; omega
    have h2 : decide (D ≤ 60) = true := by simp; omega
    rw [h2, Bool.true_and]
    go_enter Try.func88, Try.ntmps88
    go_wp2_with fail
    refine HC.out.mono ?_
    rintro e w1 ⟨rfl, hb1⟩
    obtain ⟨c0, c1⟩ := box_cells (box_at hb1)
    have hw1 : Below w.heap.size w w1 := bel0.trans (hb1.mono (by simp))
    have HD1 := Lib.hid (HD.out w1 hw1)
    clear hb1 HD
    go_wp2_with fail
    refine HD1.out.mono ?_
    rintro e w2 ⟨rfl, hb2⟩
    go_wp2
    go_ret
    exact ⟨by show Ending.returned (.bool (decide ((L : Int) ≤ 12000))) = Ending.returned (.bool (decide (L ≤ 12000))); exact ret_bool (decide_eq_decide.2 (by omega)), hw1.trans (hb2.mono hw1.size)⟩
  · have h1 : decide ((D : Int) ≤ 60) = false := by simp; omega
    have h2 : decide (D ≤ 60) = false := by simp; omega
    rw [h2, Bool.false_and]
    go_enter Try.func88, Try.ntmps88
    go_wp2_with fail
    refine HC.out.mono ?_
    rintro e w1 ⟨rfl, hb1⟩
    obtain ⟨c0, c1⟩ := box_cells (box_at hb1)
    have hw1 : Below w.heap.size w w1 := bel0.trans (hb1.mono (by simp))
    clear hb1 HD
    go_wp2
    go_ret
    exact ⟨rfl, hw1⟩

/-- The text of a tree. -/
def Tree.txt (t : Tree) : ByteArray := bts t.text

/-- The texts of the parts of a form. -/
def partsOf (s : List UInt8) : Option (List ByteArray) := (parse s).bind fun t => if t.parts.isEmpty then none else some (t.parts.map Tree.txt)


theorem partsOf_none {s : List UInt8} (h : parse s = none) : partsOf s = none := by unfold partsOf; rw [h]; rfl
theorem partsOf_leaf {s : List UInt8} {a : ByteArray} (h : parse s = some (.node a [])) : partsOf s = none := by unfold partsOf; rw [h]; rfl
theorem partsOf_node {s : List UInt8} {a : ByteArray} {ps : List Tree} (h : parse s = some (.node a ps)) (hp : ps ≠ []) : partsOf s = some (ps.map Tree.txt) := by
  unfold partsOf; rw [h]; simp [Tree.parts, hp]

theorem parse_text_le {s : List UInt8} {t : Tree} (h : parse s = some t) : t.text.length ≤ 12000 := by
  obtain ⟨rfl, _, _, hl⟩ := (parse_iff _ _).1 h; exact hl

theorem text_part_le {a : ByteArray} {ps : List Tree} {p : Tree} (h : p ∈ ps) : p.text.length ≤ (Tree.node a ps).text.length := by
  obtain ⟨k, hk⟩ := List.mem_iff_getElem?.1 h
  have := part_len a hk; omega


theorem partsOf_len (s : List UInt8) : ((partsOf s).getD []).length ≤ 1000000 := by
  cases hp : parse s with
  | none => rw [partsOf_none hp]; simp
  | some t =>
    obtain ⟨a, ps⟩ := t
    by_cases h : ps = []
    · rw [partsOf_leaf (h ▸ hp)]; simp
    · rw [partsOf_node hp h]
      have h1 := parse_sz hp
      have h2 := Tree.length_le_szL ps
      simp only [Tree.sz] at h1
      simp; omega
end Go.Proofs.Ytoihkjnfklogpaa
