/- Writing a form: the reference's l1Text, the program's write and text, each by recursion, for every tree. -/
import Derived.Test.YtoihkjnfklogpaaProg
import Derived.Test.YtoihkjnfklogpaaShelf
import Derived.Test.YtoihkjnfklogpaaPlainT
import Derived.Test.YtoihkjnfklogpaaQ1
import Derived.Test.YtoihkjnfklogpaaQ3
import Derived.Test.YtoihkjnfklogpaaAtoms
import Derived.WalkKit
import Derived.WalkSpells
import Derived.WalkLawsBesides
import Derived.IntWalk
import Derived.OwnWalk
import Derived.Lib.Strings
import Derived.Lib.Hide
namespace Go.Proofs.Ytoihkjnfklogpaa
open Go.RowKit

set_option maxRecDepth 100000 in
set_option maxHeartbeats 800000 in
theorem l1Text_any (n : Nat) : ∀ (t : Tree) (A : Nat → Prop) (v : Value) (w : World), t.sz ≤ n → Rep w A t v → t.sz ≤ 1000000000 → t.text.length ≤ 1000000000 → t.good = true →
    Calls Try.prog 30 #[v] w fun e w' => e = .returned (.string (bts t.text)) ∧ Below w.heap.size w w' := by
  induction n with
  | zero => intro t A v w h; cases t; simp [Tree.sz] at h
  | succ n ih =>
    intro t A v w hn hr hb htx hgood
    obtain ⟨s, ps⟩ := t
    simp only [Rep] at hr
    obtain ⟨o, l, c, rfl, hs, hcap⟩ := hr
    obtain rfl := hs.len
    obtain ⟨hgl, hge⟩ := Tree.good_parts hgood
    have hB0 : Below w.heap.size w (w.alloc (.cells #[.string s, .slice o ps.length c] 40)) := (Below.refl _ _).alloc (Nat.le_refl _) _
    by_cases hp : ps = []
    · subst hp
      have hemp : s.toList.isEmpty = false := by rw [Lib.toList_data]; simpa using hge.1 rfl
      have hemp2 : (s.toList == []) = false := by rw [Lib.toList_data]; simpa using hge.1 rfl
      rw [text_leaf, bts_of]
      go_enter Try.func30, Try.ntmps30
      go_wp2
      go_ret
      exact ⟨rfl, hB0⟩
    · have hemp : s.toList.isEmpty = true := by rw [Lib.toList_data]; have : s.data.toList = [] := Classical.byContradiction fun h => hp (hge.2 h); rw [this]; rfl
      have hemp2 : (s.toList == []) = true := by rw [Lib.toList_data]; have : s.data.toList = [] := Classical.byContradiction fun h => hp (hge.2 h); rw [this]; rfl
      have HE := Lib.hid (pre_end s hp)
      have HL := Lib.hid (fun k => pre_len s k hp)
      have HQ := Lib.hid (fun k p (h : ps[k]? = some p) => part_len s h)
      have HG := Lib.hid hgl
      generalize (Tree.node s ps).text = tx at HE HL HQ htx ⊢
      clear hge hgl
      have hb2 := Tree.length_le_szL ps
      have hpl : 0 < ps.length := List.length_pos_iff.2 hp
      clear hp
      simp only [Tree.sz] at hb hn
      go_enter Try.func30, Try.ntmps30
      go_wp2
      go_loopw [3, 4] (fun m i wr => ∃ (k : Nat) (S : ByteArray), k ≤ ps.length ∧ i = .int .i64 k ∧ m = .string S ∧ Hid (S.data.toList = pre ps k) ∧ S.size ≤ 1000000000 ∧ Below (w.heap.size + 1) (w.alloc (.cells #[.string s, .slice o ps.length c] 40)) wr) (fun _ i _ => ps.length - (intOf i).toNat)
      case atStart => exact ⟨0, _, Nat.zero_le _, rfl, rfl, rfl, by decide, Below.refl _ _⟩
      case round =>
        obtain ⟨k, S, hk, rfl, rfl, HS, hS, hbr⟩ := hrel
        have hB : Below w.heap.size w wr := hB0.trans (hbr.mono (by omega))
        have c0 : wr.cell? ⟨w.heap.size, 0, none⟩ = some (.string s) := (hbr.cell (p := ⟨w.heap.size, 0, none⟩) (by simp)).trans (two_new _ _ _ _).1
        have c1 : wr.cell? ⟨w.heap.size, 1, none⟩ = some (.slice o ps.length c) := (hbr.cell (p := ⟨w.heap.size, 1, none⟩) (by simp)).trans (two_new _ _ _ _).2
        by_cases hlt : k < ps.length
        · obtain ⟨p, hp⟩ : ∃ p, ps[k]? = some p := ⟨ps[k], by simp [hlt]⟩
          obtain ⟨b, off, o', n', c', rfl, -, hx, hy, hrp⟩ := (RepS.keep (Keeps.below hB) _ _ _ hs).partAt hp
          have h3 : p.sz ≤ n := by have := Tree.sz_part ps k p hp; omega
          have h4 : p.sz ≤ 1000000000 := by have := Tree.sz_part ps k p hp; omega
          have h5 := HQ.out k p hp
          have HG6 := Lib.hid (Tree.good_part ps k p hp HG.out)
          have HC := Lib.hid (ih _ A _ wr h3 hrp h4 (by omega) HG6.out)
          have hPs : (bts p.text).size ≤ 1000000000 := by rw [bts_size]; omega
          have HPd := Lib.hid (bts_data p.text)
          have HSt : Hid (k = 0 → [40] ++ p.text = pre ps (0 + 1)) := fun h => pre_step0 (h ▸ hp)
          have HSt2 : Hid (k ≠ 0 → pre ps k ++ [32] ++ p.text = pre ps (k + 1)) := fun h => pre_step hp h
          have h8 := HL.out (k + 1)
          have h9 := HL.out k
          generalize bts p.text = P at HC hPs HPd
          clear h3 h4 hp ih
          have hwr : w.heap.size + 1 ≤ wr.heap.size := by have := hbr.size; simpa using this
          by_cases hk0 : k = 0
          · subst hk0
            simp only [Nat.zero_mul, Nat.add_zero] at hx hy
            have HT := Lib.hid (HSt.out rfl)
            clear HSt HSt2
            go_wp2_with (go_at_call 30; refine HC.out.mono ?_; rintro e w1 ⟨rfl, hb2⟩)
            go_roundw
            case rel => exact ⟨0 + 1, _, by omega, by go_num, rfl, by show _ = _; rw [data_add, HS.out, HPd.out, pre_zero]; exact HT.out, by
              rw [size_data, data_add, HS.out, HPd.out, pre_zero, HT.out]; omega, hbr.trans (hb2.mono hwr)⟩
            case measure => simp [intOf]; omega
          · have hk1 : decide ((0 : Int) < (k : Int)) = true := by simp; omega
            go_wp2_with (go_at_call 30; refine HC.out.mono ?_; rintro e w1 ⟨rfl, hb2⟩)
            go_roundw
            case rel => exact ⟨k + 1, _, by omega, by go_num, rfl, by show _ = _; rw [data_add, data_add, HS.out, HPd.out]; exact HSt2.out hk0, by
              rw [size_data, data_add, data_add, HS.out, HPd.out, show pre ps k ++ (ByteArray.mk #[32]).data.toList ++ p.text = _ from HSt2.out hk0]; omega, hbr.trans (hb2.mono hwr)⟩
            case measure => simp [intOf]; omega
        · have hkn : k = ps.length := by omega
          have HF : Hid (bts tx = S ++ ⟨#[41]⟩) := by
            show _ = _
            refine (bts_eq ?_).symm
            rw [data_add, HS.out, hkn]
            exact HE.out
          go_wp2
          go_ret
          exact ⟨congrArg (fun x => Ending.returned (.string x)) HF.out.symm, hB⟩

theorem _root_.Go.Lib.IsBuilderF.below {T e : TypeId} {B b : Nat} {bs : List Value} {w w' : World} (h : Lib.IsBuilderF T e B b bs w) (hb : Below w.heap.size w w') : Lib.IsBuilderF T e B b bs w' := by
  have key : ∀ p, Lib.BuilderAtF T e B b p bs w → Lib.BuilderAtF T e B b p bs w' := by
    intro p h
    have hlt := h.lt
    obtain ⟨h1, v, h2, h3, h4⟩ := h
    refine ⟨h1, v, (hb.block b hlt).trans h2, ?_, h4⟩
    refine h3.kept (row := none) (World.grownBy.of_below hb none) ?_
    cases v.ownBlock with
    | none => exact .inl rfl
    | some g => right; simp
  exact h.elim (fun x => .inl (key _ x)) (fun x => .inr (key _ x))

theorem builder_block {T e : TypeId} {B b : Nat} {bs : List Value} {w : World} (h : Lib.IsBuilderF T e B b bs w) : ∃ p v, w.heap[b]? = some (.cells #[p, v] T (0, 0)) :=
  h.elim (fun ⟨_, v, h2, _⟩ => ⟨_, v, h2⟩) (fun ⟨_, v, h2, _⟩ => ⟨_, v, h2⟩)

theorem FormsKept.others {b B : Nat} {bs : List Value} {w w' : World} (h : Lib.OthersKept 5 (some b) w w') (hI : Lib.IsBuilderF 69 5 B b bs w) : FormsKept w w' := by
  intro k c fz hk
  refine h k _ hk ?_ ?_
  · intro e
    obtain ⟨p, v, hb⟩ := builder_block hI
    rw [← Option.some.inj e, hk] at hb
    simp at hb
  · intro c' fz' e
    simp at e

/-- What writing leaves: the builder holds acc. -/
def WroteR (B b : Nat) (acc : List UInt8) (w : World) (e : Ending) (w' : World) : Prop :=
  e = .returned (.tuple #[]) ∧ Lib.IsBuilderF 69 5 B b (Lib.byteCells acc) w' ∧ Below B w w' ∧ FormsKept w w'

set_option maxRecDepth 100000 in
set_option maxHeartbeats 1600000 in
theorem write_any (B b0 : Nat) (n : Nat) : ∀ (t : Tree) (A : Nat → Prop) (v : Value) (acc : List UInt8) (w : World), t.sz ≤ n → Rep w A t v → (∀ b, A b → b < B) → Lib.IsBuilderF 69 5 B b0 (Lib.byteCells acc) w →
    B ≤ w.heap.size → acc.length + t.text.length ≤ 1000000000 → t.sz ≤ 1000000000 → Calls Try.prog 58 #[v, .pointer (some ⟨b0, 0, none⟩)] w (WroteR B b0 (acc ++ t.text) w) := by
  induction n with
  | zero => intro t A v acc w h; cases t; simp [Tree.sz] at h
  | succ n ih =>
    intro t A v acc w hn hr hA hI hB0 htx hb
    obtain ⟨s, ps⟩ := t
    simp only [Rep] at hr
    obtain ⟨o, ln, c, rfl, hs, hcap⟩ := hr
    obtain rfl := hs.len
    have bel0 : Below w.heap.size w (w.alloc (.cells #[.string s, .slice o ps.length c] 46)) := (Below.refl _ _).alloc (Nat.le_refl _) _
    by_cases hp : ps = []
    · subst hp
      rw [text_leaf] at htx ⊢
      go_enter Try.func58, Try.ntmps58
      go_wp2_with fail
      refine (isAtom_any _ _ _ _ _).mono ?_
      rintro e w1 ⟨rfl, hb1⟩
      have hx := box_at hb1
      obtain ⟨c0, c1⟩ := box_cells hx
      have hw1 : Below w.heap.size w w1 := bel0.trans (hb1.mono (by simp))
      have HI1 := Lib.hid (hI.below hw1)
      have hs1 := hw1.size
      have hlen : (Lib.byteCells acc).length + s.size ≤ 140737488355328 := by rw [Lib.byteCells_length, Lib.size_eq]; omega
      have HC := Lib.hid (writeString_k B b0 _ s w1 HI1.out hlen (by omega))
      clear hx hb1 ih
      go_wp2_with fail
      refine HC.out.mono ?_
      rintro e w2 ⟨rfl, h2, hb2, ho2⟩
      have HF2 := Lib.hid (FormsKept.others ho2 HI1.out)
      go_wp2
      go_end0
      refine ⟨rfl, ?_, (hw1.mono hB0).trans hb2, (FormsKept.below hw1).trans HF2.out⟩
      rw [Lib.byteCells_append]
      exact Or.inr h2
    · have hlen : ((ps.length : Int) == 0) = false := by simpa using hp
      have HT := Lib.hid (text_of_opened s ps hp)
      have htl : (Tree.node s ps).text.length = (Tree.opened 0 ps).length + 1 := by rw [HT.out]; simp
      rw [HT.out] at htx ⊢
      rw [List.length_append] at htx
      simp only [List.length_singleton] at htx
      have hl2 := Tree.length_le_szL ps
      simp only [Tree.sz] at hb hn
      clear HT htl hp
      go_enter Try.func58, Try.ntmps58
      go_wp2_with fail
      refine (isAtom_any _ _ _ _ _).mono ?_
      rintro e w1 ⟨rfl, hb1⟩
      have hx := box_at hb1
      obtain ⟨c0, c1⟩ := box_cells hx
      have hw1 : Below w.heap.size w w1 := bel0.trans (hb1.mono (by simp))
      have HI1 := Lib.hid (hI.below hw1)
      clear hx hb1 hI
      go_wp2
      go_loopw [15] (fun iv wr => ∃ k : Nat, k ≤ ps.length ∧ iv = .int .i64 k ∧ Hid (Lib.IsBuilderF 69 5 B b0 (Lib.byteCells (acc ++ Tree.opened 0 (ps.take k))) wr) ∧ Below B w wr ∧ FormsKept w wr) (fun iv _ => ps.length - (intOf iv).toNat)
      case atStart => exact ⟨0, Nat.zero_le _, rfl, by simpa [Tree.opened] using HI1, hw1.mono hB0, FormsKept.below hw1⟩
      case round =>
        obtain ⟨k, hk, rfl, HI, hbr, hfr⟩ := hrel
        have hsr := hbr.size
        have hot := opened_take_le ps 0 k
        by_cases hlt : k < ps.length
        · obtain ⟨p, hp⟩ : ∃ p, ps[k]? = some p := ⟨ps[k], by simp [hlt]⟩
          obtain ⟨b, off, o', n', c', rfl, -, hx, hy, hrp⟩ := (RepS.keep (Keeps.below' hbr hA) _ _ _ hs).partAt hp
          have h1 := opened_take ps 0 k p hp
          have h1' := opened_take_le ps 0 (k + 1)
          have hln := congrArg List.length h1
          simp only [List.length_append, List.length_cons] at hln
          have h3 : p.sz ≤ n := by have := Tree.sz_part ps k p hp; omega
          have h4 : p.sz ≤ 1000000000 := by have := Tree.sz_part ps k p hp; omega
          have HIb := Lib.hid (HI.out.alloc (.cells #[.string p.atom, .slice o' n' c'] 46))
          have hbel1 : Below wr.heap.size wr (wr.alloc (.cells #[.string p.atom, .slice o' n' c'] 46)) := (Below.refl _ _).alloc (Nat.le_refl _) _
          have HW := Lib.hid (fun (ch : Int) => writeByte_k B b0 _ ch _ HIb.out (by rw [Lib.byteCells_length, List.length_append]; omega) (by simp; omega))
          have HREC : Hid (∀ (sep : UInt8) (w2 : World), sep = (if 0 + k = 0 then 40 else 32) → Lib.IsBuilderF 69 5 B b0 (Lib.byteCells (acc ++ Tree.opened 0 (ps.take k) ++ [sep])) w2 → Below B wr w2 →
              Calls Try.prog 58 #[.agg #[.string p.atom, .slice o' n' c'], .pointer (some ⟨b0, 0, none⟩)] w2 (WroteR B b0 (acc ++ Tree.opened 0 (ps.take (k + 1))) w2)) := by
            intro sep w2 hsep hI2 hB2
            have := ih p A (.agg #[.string p.atom, .slice o' n' c']) _ w2 h3 (Rep.keep (Keeps.below' hB2 hA) _ _ hrp) hA hI2 (by have := hB2.size; omega) (by simp only [List.length_append, List.length_singleton]; omega) h4
            rw [h1, ← hsep]
            simpa using this
          clear ih h1 hp h3
          have hfin : ∀ w2 w3, Below B wr w2 → FormsKept wr w2 → Below B w2 w3 → FormsKept w2 w3 → Below B w w3 ∧ FormsKept w w3 := fun w2 w3 a1 a2 a3 a4 => ⟨(hbr.trans a1).trans a3, (hfr.trans a2).trans a4⟩
          have HFIN := Lib.hid hfin
          have hb1r : Below B wr (wr.alloc (.cells #[.string p.atom, .slice o' n' c'] 46)) := hbel1.mono (by omega)
          have hf1r := FormsKept.below hbel1
          by_cases hk0 : k = 0
          · subst hk0
            simp only [Nat.zero_mul, Nat.add_zero] at hx hy
            go_wp2_with fail
            refine (HW.out 40).mono ?_
            rintro e w2 ⟨rfl, h2, hb2, ho2⟩
            have hF2 := FormsKept.others ho2 HIb.out
            obtain ⟨hx2, d0, d1⟩ := hF2.cell (heap_alloc_new wr (.cells #[.string p.atom, .slice o' n' c'] 46))
            have h2' : Lib.IsBuilderF 69 5 B b0 (Lib.byteCells (acc ++ Tree.opened 0 (ps.take 0) ++ [40])) w2 := by rw [Lib.byteCells_append]; exact Or.inr h2
            have HC := Lib.hid (HREC.out 40 w2 rfl h2' (hb1r.trans hb2))
            have hbw2 := Lib.hid (hb1r.trans hb2)
            have hfw2 := Lib.hid (hf1r.trans hF2)
            clear h2 ho2 hb2 hF2 h2'
            go_wp2_with fail
            refine HC.out.mono ?_
            rintro e w3 ⟨rfl, hI3, hb3, hf3⟩
            have HI3 := Lib.hid hI3
            have HE := Lib.hid (HFIN.out _ _ hbw2.out hfw2.out hb3 hf3)
            clear hI3 hb3 hf3
            go_wp2
            go_roundw
            case rel => exact ⟨0 + 1, by omega, by go_num, HI3, HE.out.1, HE.out.2⟩
            case measure => simp [intOf]; omega
          · have hk1 : ((k : Int) == 0) = false := by simp; omega
            go_wp2_with fail
            refine (HW.out 32).mono ?_
            rintro e w2 ⟨rfl, h2, hb2, ho2⟩
            have hF2 := FormsKept.others ho2 HIb.out
            obtain ⟨hx2, d0, d1⟩ := hF2.cell (heap_alloc_new wr (.cells #[.string p.atom, .slice o' n' c'] 46))
            have h2' : Lib.IsBuilderF 69 5 B b0 (Lib.byteCells (acc ++ Tree.opened 0 (ps.take k) ++ [32])) w2 := by rw [Lib.byteCells_append]; exact Or.inr h2
            have HC := Lib.hid (HREC.out 32 w2 (by rw [if_neg (by omega)]) h2' (hb1r.trans hb2))
            have hbw2 := Lib.hid (hb1r.trans hb2)
            have hfw2 := Lib.hid (hf1r.trans hF2)
            clear h2 ho2 hb2 hF2 h2'
            go_wp2_with fail
            refine HC.out.mono ?_
            rintro e w3 ⟨rfl, hI3, hb3, hf3⟩
            have HI3 := Lib.hid hI3
            have HE := Lib.hid (HFIN.out _ _ hbw2.out hfw2.out hb3 hf3)
            clear hI3 hb3 hf3
            go_wp2
            go_roundw
            case rel => exact ⟨k + 1, by omega, by go_num, HI3, HE.out.1, HE.out.2⟩
            case measure => simp [intOf]; omega
        · have hkn : k = ps.length := by omega
          have HI' : Lib.IsBuilderF 69 5 B b0 (Lib.byteCells (acc ++ Tree.opened 0 ps)) wr := by
            have := HI.out
            rwa [hkn, List.take_length] at this
          have HJ := Lib.hid HI'
          have HW := Lib.hid (writeByte_k B b0 _ 41 wr HI' (by rw [Lib.byteCells_length, List.length_append]; omega) (by omega))
          clear HI HI'
          go_wp2_with fail
          refine HW.out.mono ?_
          rintro e w2 ⟨rfl, h2, hb2, ho2⟩
          have hF2 := FormsKept.others ho2 HJ.out
          have H2 := Lib.hid h2
          clear h2 ho2
          go_wp2
          go_end0
          refine ⟨rfl, ?_, hbr.trans hb2, hfr.trans hF2⟩
          rw [← List.append_assoc, Lib.byteCells_append]
          exact Or.inr H2.out
end Go.Proofs.Ytoihkjnfklogpaa
