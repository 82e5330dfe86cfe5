/- FormReplace of the reference. -/
import Derived.Test.YtginaebioijcpaaReplF
import Derived.Test.YtginaebioijcpaaForm
namespace Go.Proofs.Ytginaebioijcpaa
open Go.RowKit

set_option maxRecDepth 100000 in
set_option maxHeartbeats 1600000 in
theorem sFormReplace_any (s atom by_ : ByteArray) (w : World) (hs : s.size ≤ 1000000000) (ha : atom.size ≤ 1000000000) (hb : by_.size ≤ 1000000000) :
    Calls Try.prog 34 #[.string s, .string atom, .string by_] w (StrR (replOf s.data.toList atom.data.toList by_.data.toList atom) w) := by
  have HN1 := Lib.hid (fun h => replOf_none1 (s := s.data.toList) (a := atom.data.toList) (b := by_.data.toList) (atom := atom) h)
  have HN2 := Lib.hid (fun h => replOf_none2 (s := s.data.toList) (a := atom.data.toList) (b := by_.data.toList) (atom := atom) h)
  have HN3 := Lib.hid (fun h => replOf_atom (s := s.data.toList) (a := atom.data.toList) (b := by_.data.toList) (atom := atom) h)
  have HN4 := Lib.hid (fun h => replOf_long (s := s.data.toList) (a := atom.data.toList) (b := by_.data.toList) (atom := atom) h)
  have HN5 := Lib.hid (fun t g h1 h2 h3 h4 => replOf_some (s := s.data.toList) (a := atom.data.toList) (b := by_.data.toList) (atom := atom) (t := t) (g := g) h1 h2 h3 h4)
  generalize replOf s.data.toList atom.data.toList by_.data.toList atom = res at *
  have HR1 := Lib.hid (fun W => l1Parse_any s W hs)
  have HR2 := Lib.hid (fun W => l1Parse_any atom W ha)
  have HR3 := Lib.hid (fun W => l1Parse_any by_ W hb)
  have hqa : (∃ a ps, parse atom.data.toList = some (.node a ps) ∧ ps ≠ []) ∨ parse atom.data.toList = none ∨ ∃ a, parse atom.data.toList = some (.node a []) := by
    cases h : parse atom.data.toList with
    | none => exact .inr (.inl rfl)
    | some u =>
      obtain ⟨a, ps⟩ := u
      by_cases hp : ps = []
      · subst hp; exact .inr (.inr ⟨a, rfl⟩)
      · exact .inl ⟨a, ps, rfl, hp⟩
  by_cases hgood : (parse s.data.toList).isSome = true ∧ (parse by_.data.toList).isSome = true ∧ ∃ a, parse atom.data.toList = some (.node a [])
  · obtain ⟨hq1, hq2, a, hqa'⟩ := hgood
    obtain ⟨t, hp1⟩ := Option.isSome_iff_exists.1 hq1
    obtain ⟨g, hp2⟩ := Option.isSome_iff_exists.1 hq2
    obtain ⟨hat, hae, hal⟩ := parse_leaf hqa'
    have hae' : a = atom := by rw [hae, bts_of]
    subst hae'
    have hres := HN5.out t g hp1 hp2 hat hal
    have HRES := Lib.hid hres
    have HP1 := Lib.hid hp1
    have HP2 := Lib.hid hp2
    have HPA := Lib.hid hqa'
    have hz1 := parse_sz hp1
    have hz2 := parse_sz hp2
    have hl1 := parse_text_le hp1
    have hl2 := parse_text_le hp2
    have hq3 := parse_size hp1
    have HG1 := Lib.hid (parse_good hp1)
    have HG2 := Lib.hid (parse_good hp2)
    have hge := parse_good hqa'
    have hane : a.toList ≠ [] := by rw [Lib.toList_data]; simp [Tree.good] at hge; intro h; exact hge.1 (by simpa using h)
    have hemp : (a.toList == []) = false := by simpa using hane
    have hemp2 : a.toList.isEmpty = false := by simpa using hane
    have HUG := Lib.hid (putF_good (atom := a) HG2.out HG1.out)
    have HUB := Lib.hid (subst_bound (atom := a) (g := g) (t := t) hl2 hl1 (by have := (parse_iff _ _).1 hp1; have := hq3.2; omega))
    clear hp1 hp2 hqa hqa' hge hres HN1 HN2 HN3 HN4 HN5 hq1 hq2 hat hae hq3
    go_enter Try.func34, Try.ntmps34
    go_wp2_with fail
    refine (HR1.out _).mono ?_
    rintro e w1 ⟨a1, o1, l1, c1, ok, t', rfl, hb1, hr1, hok, ht⟩
    rw [HP1.out] at hok
    have hok' : ok = true := hok
    subst hok'
    obtain rfl := ht _ HP1.out
    clear hok ht
    have hs1 := hb1.size
    have hB1 := hb1.alloc hb1.size (.cells #[.string a1, .slice o1 l1 c1] 63)
    have HQ1 := Lib.hid (Rep.bound _ _ hr1)
    clear hr1
    go_wp2_with fail
    refine (HR2.out _).mono ?_
    rintro e w2 ⟨a2, o2, l2, c2, ok, ta, rfl, hb2, hr2, hok, ht⟩
    rw [HPA.out] at hok
    have hok' : ok = true := hok
    subst hok'
    obtain rfl := ht _ HPA.out
    clear hok ht
    simp only [Rep] at hr2
    obtain ⟨o2', l2', c2', hv2, -, -⟩ := hr2
    simp at hv2
    obtain ⟨rfl, rfl, rfl, rfl⟩ := hv2
    have hs2 := hb2.size
    simp only [World.size_alloc] at hs2
    have hx1 := box_at hb2
    have HX1 := Lib.hid hx1
    have hb12 : Below w1.heap.size w1 w2 := ((Below.refl _ _).alloc (Nat.le_refl _) _).trans (hb2.mono (by simp))
    have hB2 := hb1.trans (hb12.mono hs1)
    clear hx1 hb2
    go_wp2_with fail
    refine (HR3.out _).mono ?_
    rintro e w3 ⟨a3, o3, l3, c3, ok, g', rfl, hb3, hr3, hok, ht⟩
    rw [HP2.out] at hok
    have hok' : ok = true := hok
    subst hok'
    obtain rfl := ht _ HP2.out
    clear hok ht
    have hs3 := hb3.size
    simp only [World.size_alloc] at hs3
    have hx2 := box_at hb3
    have HX2 := Lib.hid hx2
    have hb23 : Below w2.heap.size w2 w3 := ((Below.refl _ _).alloc (Nat.le_refl _) _).trans (hb3.mono (by simp))
    have hB3 := hB2.trans (hb23.mono hB2.size)
    have hx1 := (hb23.block w1.heap.size (by omega)).trans HX1.out
    obtain ⟨p0, p1⟩ := box_cells hx1
    obtain ⟨q0, q1⟩ := box_cells hx2
    have hlw1 : w1.heap.size < w3.heap.size := by omega
    have hlw2 : w2.heap.size < w3.heap.size := by omega
    have HQ3 := Lib.hid (Rep.bound _ _ hr3)
    have HQ1' := Lib.hid (Rep.keep (Keeps.below hb12) _ _ HQ1.out |> fun h => Rep.keep (Keeps.below hb23) _ _ h)
    have bel3 : Below w3.heap.size w3 (w3.alloc (.cells #[.string a3, .slice o3 l3 c3] 63)) := (Below.refl _ _).alloc (Nat.le_refl _) _
    have HREP := Lib.hid (l1Replace_any a2 g' hane _ t' _ _ (.agg #[.string a1, .slice o1 l1 c1]) a3 o3 l3 c3 (w3.alloc (.cells #[.string a3, .slice o3 l3 c3] 63)) (Nat.le_refl _) (Rep.keep (Keeps.below bel3) _ _ HQ1'.out) (Rep.keep (Keeps.below bel3) _ _ HQ3.out) (fun b hb => by have := hb.2; simp; omega) (by omega) HG1.out)
    have hB4 := hB3.alloc hB3.size (.cells #[.string a3, .slice o3 l3 c3] 63)
    clear hx1 hx2 hb3 hr3 HX1 HX2 HQ1 HQ1' HQ3 bel3
    have HUL : Hid ((t'.subst (putF a2 g')).txt.data.toList = (t'.subst (putF a2 g')).text) := bts_data _
    generalize hU : t'.subst (putF a2 g') = U at *
    have husz := Tree.sz_le_text U HUG.out
    have hub := HUB.out
    have HV : Hid (parse U.txt.data.toList = parse U.text) := by show _ = _; rw [HUL.out]
    have hfs := parse_isSome HUG.out
    go_wp2_with fail
    refine HREP.out.mono ?_
    rintro e w5 ⟨a5, o5, l5, c5, rfl, hr5, hb5⟩
    have hB5 := hB4.trans (hb5.mono (by have := hB4.size; simpa using this))
    have HTX := Lib.hid (l1Text_any _ U _ _ w5 (Nat.le_refl _) hr5 (by omega) (by omega) HUG.out)
    rw [show bts U.text = U.txt from rfl] at HTX
    clear hr5 hb5 HREP
    go_wp2_with fail
    refine HTX.out.mono ?_
    rintro e w6 ⟨rfl, hb6⟩
    have hB6 := hB5.trans (hb6.mono hB5.size)
    have hc7 := fun W => sFormValid_any U.txt W (by rw [Tree.txt, bts_size]; omega)
    rw [HV.out, hfs] at hc7
    have HC7 := Lib.hid hc7
    clear hc7 hfs hb6 HTX
    by_cases hf : U.fits = true
    · have hres := HRES.out
      rw [if_pos hf] at hres
      rw [hf] at HC7
      subst hres
      clear HRES hf
      go_wp2_with fail
      refine (HC7.out _).mono ?_
      rintro e w7 ⟨rfl, hb7⟩
      go_wp2
      go_ret2
      exact ⟨rfl, hB6.trans (hb7.mono hB6.size)⟩
    · have hf' : U.fits = false := by simpa using hf
      have hres := HRES.out
      rw [if_neg hf] at hres
      rw [hf'] at HC7
      subst hres
      clear HRES hf hf'
      go_wp2_with fail
      refine (HC7.out _).mono ?_
      rintro e w7 ⟨rfl, hb7⟩
      go_wp2
      go_ret2
      exact ⟨rfl, hB6.trans (hb7.mono hB6.size)⟩
  · have hres : res = none := by
      rcases hqa with ⟨a, ps, h, hp⟩ | h | ⟨a, h⟩
      · exact HN3.out (parse_list h hp).1
      · by_cases hat : isAtomL atom.data.toList = true
        · by_cases hl : 12000 < atom.data.toList.length
          · exact HN4.out hl
          · rw [parse_atom hat (by omega)] at h; cases h
        · exact HN3.out (by simpa using hat)
      · cases h1 : parse s.data.toList with
        | none => exact HN1.out h1
        | some t =>
          cases h2 : parse by_.data.toList with
          | none => exact HN2.out h2
          | some g => exact absurd ⟨by rw [h1]; rfl, by rw [h2]; rfl, a, h⟩ hgood
    subst hres
    clear HN1 HN2 HN3 HN4 HN5
    have hlist : ∀ (a : ByteArray) (ps : List Tree), parse atom.data.toList = some (.node a ps) → ps ≠ [] → a = ⟨#[]⟩ := by
      intro a ps h hp
      have := (parse_list h hp).2
      have e := bts_eq this
      rw [e]; rfl
    have HLI := Lib.hid hlist
    have HQA := Lib.hid hqa
    have HGD := Lib.hid hgood
    clear hqa hgood hlist
    go_enter Try.func34, Try.ntmps34
    go_wp2_with fail
    refine (HR1.out _).mono ?_
    rintro e w1 ⟨a1, o1, l1, c1, ok1, t1, rfl, hb1, -, hok1, -⟩
    have HOK1 := Lib.hid hok1
    clear hok1
    have hs1 := hb1.size
    go_wp2_with fail
    refine (HR2.out _).mono ?_
    rintro e w2 ⟨a2, o2, l2, c2, ok2, t2, rfl, hb2, hr2, hok2, ht2⟩
    have HOK2 := Lib.hid hok2
    have HT2 := Lib.hid ht2
    clear hok2 ht2
    have hx1 := box_at hb2
    have HX1 := Lib.hid hx1
    have hs2 := hb2.size
    simp only [World.size_alloc] at hs2
    have hb12 : Below w1.heap.size w1 w2 := ((Below.refl _ _).alloc (Nat.le_refl _) _).trans (hb2.mono (by simp))
    have hB2 := hb1.trans (hb12.mono hs1)
    go_wp2_with fail
    refine (HR3.out _).mono ?_
    rintro e w3 ⟨a3, o3, l3, c3, ok3, t3, rfl, hb3, -, hok3, -⟩
    have HOK3 := Lib.hid hok3
    clear hok3
    have hs3 := hb3.size
    simp only [World.size_alloc] at hs3
    obtain ⟨q0, q1⟩ := box_cells (box_at hb3)
    have hb23 : Below w2.heap.size w2 w3 := ((Below.refl _ _).alloc (Nat.le_refl _) _).trans (hb3.mono (by simp))
    have hB3 := hB2.trans (hb23.mono hB2.size)
    have hlw2 : w2.heap.size < w3.heap.size := by omega
    have hB4 := hB3.alloc hB3.size (.cells #[.string a3, .slice o3 l3 c3] 63)
    have hK : Hid (ok1 = true → ok2 = true → ok3 = true → a2 = ⟨#[]⟩) := by
      intro e1 e2 e3
      rw [HOK1.out] at e1
      rw [HOK3.out] at e3
      rw [HOK2.out] at e2
      rcases HQA.out with ⟨a, ps, h, hp⟩ | h | ⟨a, h⟩
      · have := HT2.out _ h
        subst this
        simp only [Rep] at hr2
        obtain ⟨o', l', c', hv, -, -⟩ := hr2
        simp at hv
        rw [hv.1]
        exact HLI.out a ps h hp
      · rw [h] at e2; cases e2
      · exact absurd ⟨e1, e3, a, h⟩ HGD.out
    clear HOK1 HOK2 HOK3 hr2 HT2 hb1 hb2 hb3 HX1 hx1 HGD HQA HLI
    cases ok1
    · go_wp2
      go_ret2
      exact ⟨rfl, hB4⟩
    · cases ok2
      · go_wp2
        go_ret2
        exact ⟨rfl, hB4⟩
      · cases ok3
        · go_wp2
          go_ret2
          exact ⟨rfl, hB4⟩
        · have e2 := hK.out rfl rfl rfl
          have hem : (a2.toList == []) = true := by rw [e2, Lib.toList_data]; rfl
          have hem2 : a2.toList.isEmpty = true := by rw [e2, Lib.toList_data]; rfl
          clear e2
          go_wp2
          go_ret2
          exact ⟨rfl, hB4⟩
end Go.Proofs.Ytginaebioijcpaa
