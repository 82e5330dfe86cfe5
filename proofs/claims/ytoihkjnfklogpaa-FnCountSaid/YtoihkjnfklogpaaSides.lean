/- Both types of a type of functions or of pairs: of the program and of the reference. -/
import Derived.Test.YtoihkjnfklogpaaMake
import Derived.Test.YtoihkjnfklogpaaOrder
import Derived.Test.YtoihkjnfklogpaaSType
import Derived.Deep.RegionHeld3
namespace Go.Proofs.Ytoihkjnfklogpaa
open Go.RowKit

/-- Both sides of a type with a sign. -/
def sideT (t : Tree) (h : List UInt8) : Option (Tree × Tree) := match t with
  | .node _ [p, x, y] => if p.atom.data.toList = h then some (x, y) else none
  | _ => none
def sidesOf (s h : List UInt8) : Option (Tree × Tree) := (ptype s).bind fun t => sideT t h

/-- What a function that hands back two texts and whether it has them hands back. -/
def TwoR (res : Option (Tree × Tree)) (w : World) (e : Ending) (w' : World) : Prop :=
  e = .returned (.tuple #[.string ((res.map fun x => x.1.txt).getD ⟨#[]⟩), .string ((res.map fun x => x.2.txt).getD ⟨#[]⟩), .bool res.isSome]) ∧ Below w.heap.size w w'

theorem sideT_iff {t : Tree} {h : List UInt8} {x y : Tree} : sideT t h = some (x, y) ↔ ∃ a p, t = .node a [p, x, y] ∧ p.atom.data.toList = h := by
  unfold sideT
  split
  · rename_i a p x' y'
    by_cases hp : p.atom.data.toList = h
    · rw [if_pos hp]
      constructor
      · intro e; simp at e; obtain ⟨rfl, rfl⟩ := e; exact ⟨a, p, rfl, hp⟩
      · rintro ⟨a', p', e, -⟩; simp at e; obtain ⟨-, -, rfl, rfl⟩ := e; rfl
    · rw [if_neg hp]
      constructor
      · intro e; cases e
      · rintro ⟨a', p', e, h'⟩; simp at e; obtain ⟨-, rfl, -, -⟩ := e; exact absurd h' hp
  · rename_i hn
    constructor
    · intro e; cases e
    · rintro ⟨a, p, rfl, -⟩; exact absurd rfl (hn a p x y)

theorem sideT_none_of_len {t : Tree} {h : List UInt8} (hl : t.parts.length ≠ 3) : sideT t h = none := by
  cases e : sideT t h with
  | none => rfl
  | some z => obtain ⟨x, y⟩ := z; obtain ⟨a, p, rfl, -⟩ := sideT_iff.1 e; simp [Tree.parts] at hl



set_option maxRecDepth 100000 in
set_option maxHeartbeats 1600000 in
theorem l1Two_any (s h : ByteArray) (w : World) (hs : s.size ≤ 1000000000) (hne : h.data.toList ≠ []) :
    Calls Try.prog 122 #[.string s, .string h] w (TwoR (sidesOf s.data.toList h.data.toList) w) := by
  have HR := Lib.hid (fun W => l1Parse_any s W hs)
  cases hp : parse s.data.toList with
  | none =>
    have HN : Hid (sidesOf s.data.toList h.data.toList = none) := by show _ = _; unfold sidesOf ptype; rw [hp]; rfl
    have HP := Lib.hid hp
    clear hp
    go_enter Try.func122, Try.ntmps122
    go_wp2_with fail
    refine (HR.out _).mono ?_
    rintro e w1 ⟨a, o, l, c, ok, t, rfl, hb1, -, hok, -⟩
    rw [HP.out] at hok
    have hok' : ok = false := hok
    subst hok'
    clear hok
    go_wp2
    exact bodyPost_ret (v := .tuple #[.string ⟨#[]⟩, .string ⟨#[]⟩, .bool false]) (by simp [results, Try.results122, go_sem]) rfl ⟨by rw [HN.out]; rfl, hb1.alloc hb1.size _⟩
  | some t0 =>
    have hz := parse_sz hp
    have htl := parse_text_le hp
    have HP := Lib.hid hp
    have hgd := parse_good hp
    have HGD := Lib.hid hgd
    have HE : Hid (sidesOf s.data.toList h.data.toList = if t0.typed = true then sideT t0 h.data.toList else none) := by
      show _ = _; unfold sidesOf ptype; rw [hp]; by_cases h : t0.typed = true <;> simp [h]
    clear hp hgd
    go_enter Try.func122, Try.ntmps122
    go_wp2_with fail
    refine (HR.out _).mono ?_
    rintro e w1 ⟨a, o, l, c, ok, t, rfl, hb1, hr, hok, ht⟩
    rw [HP.out] at hok
    have hok' : ok = true := hok
    subst hok'
    obtain rfl := ht _ HP.out
    clear hok ht
    have hr1 := Rep.keep (Keeps.alloc _ _ (.cells #[.string a, .slice o l c] 40)) _ _ hr
    have HI := Lib.hid (l1Typed_any t _ _ _ hr1 (by omega) HGD.out)
    have hB1 := hb1.alloc hb1.size (.cells #[.string a, .slice o l c] 40)
    have hw1 := hb1.size
    have HRR := Lib.hid hr
    clear hr hr1 hb1
    by_cases hty : t.typed = true
    · rw [hty] at HI HE
      simp only [if_true] at HE
      have htt : t.isType = true := by unfold Tree.typed at hty; simp at hty; exact hty.1
      obtain ⟨a0, ps⟩ := t
      have hr := HRR.out
      simp only [Rep] at hr
      obtain ⟨o', l', c', hv, hsr, hcap⟩ := hr
      simp at hv
      obtain ⟨rfl, rfl, rfl, rfl⟩ := hv
      obtain rfl := hsr.len
      rcases isType_cases htt with rfl | ⟨p, x, y, rfl, htx, hty', hpa⟩
      · have HS1 : Hid (sidesOf s.data.toList h.data.toList = none) := by show _ = _; rw [HE.out]; rfl
        have hge := (Tree.good_parts HGD.out).2
        have hemp : a.toList.isEmpty = false := by rw [Lib.toList_data]; simpa using hge.1 rfl
        have hemp2 : (a.toList == []) = false := by rw [Lib.toList_data]; simpa using hge.1 rfl
        clear HE hge
        go_wp2_with fail
        refine HI.out.mono ?_
        rintro e w2 ⟨rfl, hb2⟩
        obtain ⟨c0, c1⟩ := box_cells (box_at hb2)
        go_wp2
        exact bodyPost_ret (v := .tuple #[.string ⟨#[]⟩, .string ⟨#[]⟩, .bool false]) (by simp [results, Try.results122, go_sem]) rfl ⟨by rw [HS1.out]; rfl, hB1.trans (hb2.mono (by simp; omega))⟩
      · have hge := (Tree.good_parts HGD.out).2
        have hse : a.toList = [] := by rw [Lib.toList_data]; exact Classical.byContradiction fun h => by have := hge.2 h; simp at this
        have hemp : a.toList.isEmpty = true := by rw [hse]; rfl
        have hemp2 : (a.toList == []) = true := by rw [hse]; rfl
        have hsz : x.sz ≤ 1000000000 ∧ y.sz ≤ 1000000000 := by simp only [Tree.sz, Tree.szL] at hz; omega
        have htx : x.text.length ≤ 1000000000 ∧ y.text.length ≤ 1000000000 := ⟨by have := text_part_le (a := a) (p := x) (ps := [p, x, y]) (by simp); omega, by have := text_part_le (a := a) (p := y) (ps := [p, x, y]) (by simp); omega⟩
        have hgg := (Tree.good_parts HGD.out).1
        simp only [Tree.goodL, Bool.and_eq_true, and_true] at hgg
        obtain ⟨b, off, rfl, hA, hc⟩ := hsr.uncons
        clear hge hse
        go_wp2_with fail
        refine HI.out.mono ?_
        rintro e w2 ⟨rfl, hb2⟩
        have hx := box_at hb2
        obtain ⟨c0, c1⟩ := box_cells hx
        have hB2 := hB1.trans (hb2.mono (by simp; omega))
        have hK := (Keeps.alloc (fun b => w.heap.size ≤ b) w1 (.cells #[.string a, .slice (some ⟨b, off, none⟩) [p, x, y].length c] 40)).trans (Keeps.below hb2)
        obtain ⟨o0, n0, c0', ca0, cb0, r0⟩ := (RepC.keep hK hA _ _ hc).nth 0 (k := off) rfl rfl
        obtain ⟨o1, n1, c1', ca1, cb1, r1⟩ := (RepC.keep hK hA _ _ hc).nth 1 (k := off + 2) rfl rfl
        obtain ⟨o2, n2, c2', ca2, cb2, r2⟩ := (RepC.keep hK hA _ _ hc).nth 2 (k := off + 4) rfl rfl
        have HX := Lib.hid (fun W hr => l1Text_any _ x (fun b => w.heap.size ≤ b) (.agg #[.string x.atom, .slice o1 n1 c1']) W (Nat.le_refl _) hr hsz.1 htx.1 hgg.2.1)
        have HY := Lib.hid (fun W hr => l1Text_any _ y (fun b => w.heap.size ≤ b) (.agg #[.string y.atom, .slice o2 n2 c2']) W (Nat.le_refl _) hr hsz.2 htx.2 hgg.2.2)
        rw [show bts x.text = x.txt from rfl] at HX
        rw [show bts y.text = y.txt from rfl] at HY
        have hS : ∀ w' : World, Below w2.heap.size w2 w' → w'.cell? ⟨w1.heap.size, 0, none⟩ = some (.string a) ∧ w'.cell? ⟨w1.heap.size, 1, none⟩ = some (.slice (some ⟨b, off, none⟩) 3 c) ∧ w'.cell? ⟨b, off + 2, none⟩ = some (.string x.atom) ∧ w'.cell? ⟨b, off + 2 + 1, none⟩ = some (.slice o1 n1 c1') ∧ w'.cell? ⟨b, off + 4, none⟩ = some (.string y.atom) ∧ w'.cell? ⟨b, off + 4 + 1, none⟩ = some (.slice o2 n2 c2') ∧ Below w2.heap.size w2 w' :=
          fun w' h => ⟨(h.cell (lt_of_cell c0)).trans c0, (h.cell (lt_of_cell c1)).trans c1, (h.cell (lt_of_cell ca1)).trans ca1, (h.cell (lt_of_cell cb1)).trans cb1, (h.cell (lt_of_cell ca2)).trans ca2, (h.cell (lt_of_cell cb2)).trans cb2, h⟩
        have HS := Lib.hid hS
        clear hS hx hb2 HI hsr hc hK HRR hpa
        by_cases hph : p.atom.data.toList = h.data.toList
        · have HS1 : Hid (sidesOf s.data.toList h.data.toList = some (x, y)) := by show _ = _; rw [HE.out]; exact sideT_iff.2 ⟨a, p, rfl, hph⟩
          have hpe : (p.atom.toList == h.toList) = true := by rw [Lib.toList_data, Lib.toList_data, hph]; simp
          clear HE hph
          go_wp2_with fail
          go_region_held3 (fun w' => w'.cell? ⟨w1.heap.size, 0, none⟩ = some (.string a) ∧ w'.cell? ⟨w1.heap.size, 1, none⟩ = some (.slice (some ⟨b, off, none⟩) 3 c) ∧ w'.cell? ⟨b, off + 2, none⟩ = some (.string x.atom) ∧ w'.cell? ⟨b, off + 2 + 1, none⟩ = some (.slice o1 n1 c1') ∧ w'.cell? ⟨b, off + 4, none⟩ = some (.string y.atom) ∧ w'.cell? ⟨b, off + 4 + 1, none⟩ = some (.slice o2 n2 c2') ∧ Below w2.heap.size w2 w') (first | exact HS.out _ (by assumption) | exact HS.out _ (Below.refl _ _).drew)
            (first
              | (go_at_call_of 30 (Tree.atom x); refine (callQ (w1 := w2) ?_ (HX.out _ ?_)).mono ?_; (first | assumption | exact (Below.refl _ _).drew); (exact Rep.keep (Keeps.below (by first | assumption | exact (Below.refl _ _).drew)) _ _ r1); rintro e w' ⟨rfl, hb'⟩)
              | (go_at_call_of 30 (Tree.atom y); refine (callQ (w1 := w2) ?_ (HY.out _ ?_)).mono ?_; (first | assumption | exact (Below.refl _ _).drew); (exact Rep.keep (Keeps.below (by first | assumption | exact (Below.refl _ _).drew)) _ _ r2); rintro e w' ⟨rfl, hb'⟩))
          all_goals
            have hq : ∀ w', Below w2.heap.size w2 w' → Below w.heap.size w w' := fun w' h => hB2.trans (h.mono hB2.size)
            go_wp2
            exact bodyPost_ret (v := .tuple #[.string x.txt, .string y.txt, .bool true]) (by simp [results, Try.results122, go_sem]) rfl ⟨by rw [HS1.out]; rfl, hq _ (by assumption)⟩
        · have HS1 : Hid (sidesOf s.data.toList h.data.toList = none) := by
            show _ = _; rw [HE.out]
            cases e : sideT (Tree.node a [p, x, y]) h.data.toList with
            | none => rfl
            | some z => obtain ⟨x', y'⟩ := z; obtain ⟨a', p', e', h'⟩ := sideT_iff.1 e; simp at e'; obtain ⟨-, rfl, -, -⟩ := e'; exact absurd h' hph
          have hpe : (p.atom.toList == h.toList) = false := by rw [Lib.toList_data, Lib.toList_data]; simpa using hph
          clear HE hph
          go_wp2
          exact bodyPost_ret (v := .tuple #[.string ⟨#[]⟩, .string ⟨#[]⟩, .bool false]) (by simp [results, Try.results122, go_sem]) rfl ⟨by rw [HS1.out]; rfl, hB2⟩
    · have hty' : t.typed = false := by simpa using hty
      rw [hty'] at HI HE
      have HS1 : Hid (sidesOf s.data.toList h.data.toList = none) := by show _ = _; rw [HE.out]; simp
      clear HE hty hty'
      go_wp2_with fail
      refine HI.out.mono ?_
      rintro e w2 ⟨rfl, hb2⟩
      go_wp2
      exact bodyPost_ret (v := .tuple #[.string ⟨#[]⟩, .string ⟨#[]⟩, .bool false]) (by simp [results, Try.results122, go_sem]) rfl ⟨by rw [HS1.out]; rfl, hB1.trans (hb2.mono (by simp; omega))⟩

theorem sTypeFun_any (s : ByteArray) (w : World) (hs : s.size ≤ 1000000000) : Calls Try.prog 116 #[.string s] w (TwoR (sidesOf s.data.toList [62]) w) := by
  have HC := Lib.hid (fun W => l1Two_any s ⟨#[62]⟩ W hs (by decide))
  rw [show (ByteArray.mk #[62]).data.toList = [62] from rfl] at HC
  go_enter Try.func116, Try.ntmps116
  go_wp2_with fail
  refine (HC.out _).mono ?_
  rintro e w1 ⟨rfl, hb1⟩
  go_wp2
  exact bodyPost_ret (v := .tuple #[.string (((sidesOf s.data.toList [62]).map fun x => x.1.txt).getD ⟨#[]⟩), .string (((sidesOf s.data.toList [62]).map fun x => x.2.txt).getD ⟨#[]⟩), .bool (sidesOf s.data.toList [62]).isSome]) (by simp [results, Try.results116, go_sem]) rfl ⟨rfl, hb1⟩
theorem sTypePair_any (s : ByteArray) (w : World) (hs : s.size ≤ 1000000000) : Calls Try.prog 115 #[.string s] w (TwoR (sidesOf s.data.toList [42]) w) := by
  have HC := Lib.hid (fun W => l1Two_any s ⟨#[42]⟩ W hs (by decide))
  rw [show (ByteArray.mk #[42]).data.toList = [42] from rfl] at HC
  go_enter Try.func115, Try.ntmps115
  go_wp2_with fail
  refine (HC.out _).mono ?_
  rintro e w1 ⟨rfl, hb1⟩
  go_wp2
  exact bodyPost_ret (v := .tuple #[.string (((sidesOf s.data.toList [42]).map fun x => x.1.txt).getD ⟨#[]⟩), .string (((sidesOf s.data.toList [42]).map fun x => x.2.txt).getD ⟨#[]⟩), .bool (sidesOf s.data.toList [42]).isSome]) (by simp [results, Try.results115, go_sem]) rfl ⟨rfl, hb1⟩
end Go.Proofs.Ytoihkjnfklogpaa
