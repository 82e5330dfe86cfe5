/- FormReplace of the program and of the reference. -/
import Derived.Test.YtginaebioijcpaaPlainU
namespace Go.Proofs.Ytginaebioijcpaa
open Go.RowKit

/-- What a function that hands back a text and whether it has one hands back. -/
def StrR (res : Option ByteArray) (w : World) (e : Ending) (w' : World) : Prop :=
  e = .returned (.tuple #[.string (res.getD ⟨#[]⟩), .bool res.isSome]) ∧ Below w.heap.size w w'

set_option maxRecDepth 100000 in
set_option maxHeartbeats 1600000 in
theorem formReplace_any (s atom by_ : ByteArray) (w : World) (hs : s.size ≤ 1000000000) (ha : atom.size ≤ 1000000000) (hb : by_.size ≤ 1000000000) :
    Calls Try.prog 30 #[.string s, .string atom, .string by_] w (StrR (replOf s.data.toList atom.data.toList by_.data.toList atom) w) := by
  have HN1 := Lib.hid (fun h => replOf_none1 (s := s.data.toList) (a := atom.data.toList) (b := by_.data.toList) (atom := atom) h)
  have HN2 := Lib.hid (fun h => replOf_none2 (s := s.data.toList) (a := atom.data.toList) (b := by_.data.toList) (atom := atom) h)
  have HN3 := Lib.hid (fun h => replOf_atom (s := s.data.toList) (a := atom.data.toList) (b := by_.data.toList) (atom := atom) h)
  have HN4 := Lib.hid (fun h => replOf_long (s := s.data.toList) (a := atom.data.toList) (b := by_.data.toList) (atom := atom) h)
  have HN5 := Lib.hid (fun t g h1 h2 h3 h4 => replOf_some (s := s.data.toList) (a := atom.data.toList) (b := by_.data.toList) (atom := atom) (t := t) (g := g) h1 h2 h3 h4)
  generalize replOf s.data.toList atom.data.toList by_.data.toList atom = res at *
  have HR1 := Lib.hid (fun W => read_any s W hs)
  have HR2 := Lib.hid (fun W => read_any by_ W hb)
  have HIA := Lib.hid (fun W => isAtomS_any atom W ha)
  cases hp1 : parse s.data.toList with
  | none =>
    have hres := HN1.out hp1
    have HP1 := Lib.hid hp1
    subst hres
    clear hp1 HN1 HN2 HN3 HN4 HN5 HIA
    go_enter Try.func30, Try.ntmps30
    go_wp2_with fail
    refine (HR1.out _).mono ?_
    rintro e w1 ⟨a, o, l, c, ok, t, rfl, hb1, -, hok, -⟩
    rw [HP1.out] at hok
    have hok' : ok = false := hok
    subst hok'
    clear hok
    have hbw1 : Below w.heap.size w w1 := ((Below.refl _ _).alloc (Nat.le_refl _) _).trans (hb1.mono (by simp))
    go_wp2_with fail
    refine (HR2.out _).mono ?_
    rintro e w2 ⟨a2, o2, l2, c2, ok2, t2, rfl, hb2, -, -, -⟩
    have hbw2 := (hbw1.alloc hbw1.size (.cells #[.string a, .slice o l c] 50)).trans (hb2.mono (by have := hbw1.size; simp; omega))
    go_wp2
    go_ret2
    exact ⟨rfl, hbw2.alloc hbw2.size _⟩
  | some t =>
    cases hp2 : parse by_.data.toList with
    | none =>
      have hres := HN2.out hp2
      have HP1 := Lib.hid hp1
      have HP2 := Lib.hid hp2
      subst hres
      clear hp1 hp2 HN1 HN2 HN3 HN4 HN5 HIA
      go_enter Try.func30, Try.ntmps30
      go_wp2_with fail
      refine (HR1.out _).mono ?_
      rintro e w1 ⟨a, o, l, c, ok, t', rfl, hb1, -, hok, -⟩
      rw [HP1.out] at hok
      have hok' : ok = true := hok
      subst hok'
      clear hok
      have hbw1 : Below w.heap.size w w1 := ((Below.refl _ _).alloc (Nat.le_refl _) _).trans (hb1.mono (by simp))
      go_wp2_with fail
      refine (HR2.out _).mono ?_
      rintro e w2 ⟨a2, o2, l2, c2, ok2, t2, rfl, hb2, -, hok, -⟩
      rw [HP2.out] at hok
      have hok' : ok2 = false := hok
      subst hok'
      clear hok
      have hbw2 := (hbw1.alloc hbw1.size (.cells #[.string a, .slice o l c] 50)).trans (hb2.mono (by have := hbw1.size; simp; omega))
      go_wp2
      go_ret2
      exact ⟨rfl, hbw2.alloc hbw2.size _⟩
    | some g =>
      have HP1 := Lib.hid hp1
      have HP2 := Lib.hid hp2
      have hz1 := parse_sz hp1
      have hz2 := parse_sz hp2
      have hl1 := parse_text_le hp1
      have hl2 := parse_text_le hp2
      have hq1 := (parse_size hp1).2
      have HE1 := Lib.hid ((parse_iff _ _).1 hp1).1
      have HE2 := Lib.hid ((parse_iff _ _).1 hp2).1
      have HG1 := Lib.hid (parse_good hp1)
      have HG2 := Lib.hid (parse_good hp2)
      clear hp1 hp2 HN1 HN2
      go_enter Try.func30, Try.ntmps30
      go_wp2_with fail
      refine (HR1.out _).mono ?_
      rintro e w1 ⟨a, o, l, c, ok, t', rfl, hb1, hr1, hok, ht⟩
      rw [HP1.out] at hok
      have hok' : ok = true := hok
      subst hok'
      obtain rfl := ht _ HP1.out
      clear hok ht
      have hbw1 : Below w.heap.size w w1 := ((Below.refl _ _).alloc (Nat.le_refl _) _).trans (hb1.mono (by simp))
      have hs1 := hb1.size
      simp only [World.size_alloc] at hs1
      have hx1 := box_at hb1
      have HX1 := Lib.hid hx1
      have hr1' := Rep.bound _ _ hr1
      have HQ1 := Lib.hid hr1'
      clear hr1 hr1' hb1 hx1
      go_wp2_with fail
      refine (HR2.out _).mono ?_
      rintro e w2 ⟨a2, o2, l2, c2, ok2, g', rfl, hb2, hr2, hok, ht⟩
      rw [HP2.out] at hok
      have hok' : ok2 = true := hok
      subst hok'
      obtain rfl := ht _ HP2.out
      clear hok ht
      have hs2 := hb2.size
      simp only [World.size_alloc] at hs2
      have bel1 : Below w1.heap.size w1 (w1.alloc (.cells #[.string a, .slice o l c] 50)) := (Below.refl _ _).alloc (Nat.le_refl _) _
      have hb12 : Below w1.heap.size w1 w2 := bel1.trans (hb2.mono (by simp))
      have hbw2 : Below w.heap.size w w2 := hbw1.trans (hb12.mono hbw1.size)
      have hxa := (hb12.block w.heap.size (by omega)).trans HX1.out
      obtain ⟨ca, fa⟩ := one_cell hxa
      have HXA := Lib.hid hxa
      have hxf := box_at hb2
      have HXF := Lib.hid hxf
      obtain ⟨cf0, cf1⟩ := box_cells hxf
      have HQ1' := Lib.hid (Rep.keep (Keeps.below hb12) _ _ HQ1.out)
      have HQ2 := Lib.hid (Rep.bound _ _ hr2)
      have hlw : w.heap.size < w2.heap.size := by omega
      have hlf : w1.heap.size < w2.heap.size := by omega
      have hB2 := hbw2.alloc hbw2.size (.cells #[.string a2, .slice o2 l2 c2] 50)
      clear hxa hxf hb2 hr2 HQ1 bel1
      cases hia : isAtomL atom.data.toList with
      | false =>
        have hres := HN3.out hia
        subst hres
        rw [hia] at HIA
        clear HN3 HN4 HN5 hia
        go_wp2_with fail
        refine (HIA.out _).mono ?_
        rintro e w3 ⟨rfl, rfl⟩
        go_wp2
        go_ret2
        exact ⟨rfl, hB2⟩
      | true =>
        rw [hia] at HIA
        by_cases hlong : 12000 < atom.size
        · have hres := HN4.out (by rw [← size_data]; exact hlong)
          subst hres
          clear HN3 HN4 HN5 hia
          go_wp2_with fail
          refine (HIA.out _).mono ?_
          rintro e w3 ⟨rfl, rfl⟩
          go_wp2
          go_ret2
          exact ⟨rfl, hB2⟩
        · have HRES := Lib.hid (HN5.out t' g' HP1.out HP2.out hia (by rw [← size_data]; omega))
          have hsl := subst_len atom g' t'
          have hcl := cntA_le atom t'
          have hse : t'.text.length = s.size := by rw [← HE1.out, ← size_data]
          have hge : g'.text.length = by_.size := by rw [← HE2.out, ← size_data]
          rw [hse, hge] at hsl
          have HSL := Lib.hid hsl
          have HUG := Lib.hid (putF_good (atom := atom) HG2.out HG1.out)
          clear HN3 HN4 HN5 hia hsl
          rw [hse] at hl1
          rw [← size_data] at hq1
          rw [hge] at hl2
          have HA : Hid (∀ x ∈ t'.atoms, x.size ≤ 1000000000) := fun x hx => by
            have := Tree.atoms_size t' x hx; omega
          clear hse hge
          go_wp2_with fail
          refine (HIA.out _).mono ?_
          rintro e w3 ⟨rfl, rfl⟩
          have hat := Tree.size_le_sz t'
          have hxg : (w2.alloc (.cells #[.string a2, .slice o2 l2 c2] 50)).heap[w2.heap.size]? = some (.cells #[.string a2, .slice o2 l2 c2] 50 (0, 0)) := heap_alloc_new _ _
          have hI : CntI (w2.heap.size + 1) w.heap.size atom [] ((w2.alloc (.cells #[.string a2, .slice o2 l2 c2] 50)).alloc (.cells #[.int .i64 0] 3)) := by
            refine ⟨by omega, by simp, (Below.heap_alloc _ _ _ (by simp; omega)).trans ((Below.heap_alloc _ _ _ (by omega)).trans HXA.out), ?_⟩
            have := heap_alloc_new (w2.alloc (.cells #[.string a2, .slice o2 l2 c2] 50)) (.cells #[.int .i64 0] 3)
            rwa [World.size_alloc] at this
          have bel2 : Below w2.heap.size w2 ((w2.alloc (.cells #[.string a2, .slice o2 l2 c2] 50)).alloc (.cells #[.int .i64 0] 3)) := ((Below.refl _ _).alloc (Nat.le_refl _) _).alloc (by simp) _
          have HAC := Lib.hid (atoms_any 68 (fun _ _ => by kernel_rfl) #[.pointer (some ⟨w.heap.size, 0, none⟩), .pointer (some ⟨w2.heap.size + 1, 0, none⟩)] (CntI (w2.heap.size + 1) w.heap.size atom) (w2.heap.size + 1) 1000000 (fun _ _ _ h hb => h.below hb) (fun _ _ h => Nat.le_of_lt h.2.1) (fun l s w h hl _ => formReplace1_any _ _ _ l s w h hl) _ t' _ _ [] _ (Nat.le_refl _)
            (Rep.keep (Keeps.below bel2) _ _ HQ1'.out) (fun b hb => by have := hb.2; omega) hI (by simp; omega) (by omega) HA.out)
          rw [List.nil_append] at HAC
          clear hI
          go_wp2_with fail
          refine HAC.out.mono ?_
          rintro e w5 ⟨rfl, hi5, hb5, -⟩
          obtain ⟨k1, k2, k3, k4⟩ := hi5
          have hb25 : Below w2.heap.size w2 w5 := bel2.trans (hb5.mono (by omega))
          have hbw5 : Below w.heap.size w w5 := hbw2.trans (hb25.mono hbw2.size)
          have hxf5 := (hb25.block w1.heap.size hlf).trans HXF.out
          have hxg5 : w5.heap[w2.heap.size]? = some (.cells #[.string a2, .slice o2 l2 c2] 50 (0, 0)) := (hb5.block _ (by omega)).trans ((Below.heap_alloc _ _ _ (by simp)).trans hxg)
          obtain ⟨ca5, fa5⟩ := one_cell k3
          obtain ⟨cn5, fn5⟩ := one_cell k4
          obtain ⟨cf5, cf5'⟩ := box_cells hxf5
          have HPUT : Hid (PutI (w2.heap.size + 1) w.heap.size w2.heap.size atom (fun b => w1.heap.size + 1 ≤ b ∧ b < w2.heap.size) g' w5) :=
            ⟨by omega, by omega, fun b hb => by omega, Nat.le_of_lt k2, k3, a2, o2, l2, c2, hxg5, Rep.weak (fun b hb => by simpa using hb) _ _ (Rep.keep (Keeps.below hb25) _ _ HQ2.out)⟩
          have HREP := Lib.hid (replace_any 70 (fun _ _ => by kernel_rfl) #[.pointer (some ⟨w.heap.size, 0, none⟩), .pointer (some ⟨w2.heap.size, 0, none⟩)] (PutI (w2.heap.size + 1) w.heap.size w2.heap.size atom (fun b => w1.heap.size + 1 ≤ b ∧ b < w2.heap.size) g') (fun b => w1.heap.size + 1 ≤ b ∧ b < w2.heap.size) (putF atom g') (fun _ _ h hb => h.below hb) (fun w h b hb => by have := h.2.2.2.1; omega)
            (fun s w h => formReplace2_any _ _ _ _ _ _ s w h) _ t' _ (.agg #[.string a, .slice o l c]) w5 (Nat.le_refl _) (Rep.keep (Keeps.below hb25) _ _ HQ1'.out) HPUT.out (by omega))
          have hsz12 : t'.size ≤ 12000 := by omega
          unfold cntA at HSL hcl
          clear HAC HXF HXA HX1 HQ1' HA k1 k2 k3 k4 hb5 hxf5 hxg5 hxg hb25 bel2
          generalize t'.subst (putF atom g') = U at *
          generalize t'.atoms.countP (fun a => a.toList == atom.toList) = n at *
          have hd1 : -12000 ≤ ((by_.size : Int) - (atom.size : Int)) := by omega
          have hd2 : ((by_.size : Int) - (atom.size : Int)) ≤ 12000 := by omega
          have hm : -144000000 ≤ (n : Int) * ((by_.size : Int) - (atom.size : Int)) ∧ (n : Int) * ((by_.size : Int) - (atom.size : Int)) ≤ 144000000 := by
            constructor
            · have := Int.mul_le_mul_of_nonneg_left hd1 (show (0 : Int) ≤ (n : Int) by omega)
              omega
            · have := Int.mul_le_mul_of_nonneg_left hd2 (show (0 : Int) ≤ (n : Int) by omega)
              omega
          obtain ⟨hm1, hm2⟩ := hm
          have hcase : n = 0 ∨ (0 < n ∧ ¬ (12000 < (s.size : Int) + (n : Int) * ((by_.size : Int) - (atom.size : Int)))) ∨ (0 < n ∧ 12000 < (s.size : Int) + (n : Int) * ((by_.size : Int) - (atom.size : Int))) := by omega
          have HUL : Hid (n = 0 ∨ ¬ (12000 < (s.size : Int) + (n : Int) * ((by_.size : Int) - (atom.size : Int))) → U.text.length ≤ 12000) := by
            intro h
            have := HSL.out
            rcases h with h | h
            · subst h; simp at this; omega
            · omega
          have HUF : Hid (¬ U.text.length ≤ 12000 → res = none) := by
            intro h
            have h1 := HRES.out
            unfold Tree.fits at h1
            rw [decide_eq_false h, Bool.and_false] at h1
            simpa using h1
          have HUS : Hid (U.fits = true → res = some U.txt) := fun h => by have h1 := HRES.out; rw [if_pos h] at h1; exact h1
          have HUN : Hid (U.fits = false → res = none) := fun h => by have h1 := HRES.out; rw [h] at h1; simpa using h1
          clear HRES
          rcases hcase with hn | ⟨hn, hn2⟩ | ⟨hn, hn2⟩
          case inr.inr =>
            have hn0 : decide ((0 : Int) < (n : Int)) = true := by simp; omega
            have hres := HUF.out (by have := HSL.out; omega)
            subst hres
            have hn3 : decide (12000 < (s.size : Int) + (n : Int) * ((by_.size : Int) - (atom.size : Int))) = true := decide_eq_true hn2
            clear HREP HPUT
            go_wp2
            go_ret2
            exact ⟨rfl, hbw5⟩
          all_goals
            have hu12 := HUL.out (by first | exact .inl hn | exact .inr hn2)
            have hUsz := fits_sz HUG.out hu12
            have HU12 := Lib.hid hu12
            have HUSZ := Lib.hid hUsz
            have hn0 : decide ((0 : Int) < (n : Int)) = decide (n ≠ 0) := by rw [Bool.eq_iff_iff]; simp; omega
            clear HUF HUL HSL hu12 hUsz HPUT
            first
              | (have hn3 : decide (12000 < (s.size : Int) + (n : Int) * ((by_.size : Int) - (atom.size : Int))) = false := decide_eq_false hn2
                 have hn4 : decide (n ≠ 0) = true := by simp; omega
                 rw [hn4] at hn0)
              | (have hn4 : decide (n ≠ 0) = false := by simp; omega
                 rw [hn4] at hn0)
            go_wp2_with fail
            refine HREP.out.mono ?_
            rintro e w6 ⟨a6, o6, l6, c6, rfl, hr6, hb6⟩
            have hbw6 := hbw5.trans (hb6.mono hbw5.size)
            have HR6 := Lib.hid (fun W (h : Below w6.heap.size w6 W) => Rep.keep (Keeps.below h) _ _ hr6)
            have bel6 : Below w6.heap.size w6 (w6.alloc (.cells #[.string a6, .slice o6 l6 c6] 50)) := (Below.refl _ _).alloc (Nat.le_refl _) _
            have HFIT := Lib.hid (fits_any U _ _ (w6.alloc (.cells #[.string a6, .slice o6 l6 c6] 50)) (HR6.out _ bel6) (by have := HUSZ.out; omega) (by have := HU12.out; omega))
            rw [show (decide (U.depth ≤ 60) && decide (U.text.length ≤ 12000)) = U.fits from rfl] at HFIT
            clear hr6 hb6 HREP
            cases hf : U.fits with
            | false =>
              have hres := HUN.out hf
              rw [hf] at HFIT
              subst hres
              clear HUS HUN hf
              go_wp2_with fail
              refine HFIT.out.mono ?_
              rintro e w7 ⟨rfl, hb7⟩
              go_wp2
              go_ret2
              exact ⟨rfl, (hbw6.alloc hbw6.size _).trans (hb7.mono (by have := hbw6.size; simp; omega))⟩
            | true =>
              have hres := HUS.out hf
              rw [hf] at HFIT
              subst hres
              clear HUS HUN hf
              go_wp2_with fail
              refine HFIT.out.mono ?_
              rintro e w7 ⟨rfl, hb7⟩
              have hbw7 := (hbw6.alloc hbw6.size (.cells #[.string a6, .slice o6 l6 c6] 50)).trans (hb7.mono (by have := hbw6.size; simp; omega))
              have hx7 := box_at hb7
              obtain ⟨cx0, cx1⟩ := box_cells hx7
              have HTX := Lib.hid (text_any U _ _ w7 (HR6.out _ (bel6.trans (hb7.mono (by simp)))) (by have := HUSZ.out; omega) (by have := HU12.out; omega))
              rw [show bts U.text = U.txt from rfl] at HTX
              clear hx7 hb7 HR6
              go_wp2_with fail
              refine HTX.out.mono ?_
              rintro e w8 ⟨rfl, hb8⟩
              go_wp2
              go_ret2
              exact ⟨rfl, hbw7.trans (hb8.mono hbw7.size)⟩

theorem heap4 (w : World) (a b c d : Obj) : ((((w.alloc a).alloc b).alloc c).alloc d).heap[w.heap.size]? = some a ∧ ((((w.alloc a).alloc b).alloc c).alloc d).heap[w.heap.size + 1]? = some b ∧ ((((w.alloc a).alloc b).alloc c).alloc d).heap[w.heap.size + 1 + 1]? = some c ∧ ((((w.alloc a).alloc b).alloc c).alloc d).heap[w.heap.size + 1 + 1 + 1]? = some d := by
  refine ⟨?_, ?_, ?_, ?_⟩
  · exact (Lib.alloc_old _ _ _ (by simp <;> omega)).trans ((Lib.alloc_old _ _ _ (by simp <;> omega)).trans ((Lib.alloc_old _ _ _ (by simp)).trans (heap_alloc_new _ _)))
  · refine (Lib.alloc_old _ _ _ (by simp <;> omega)).trans ((Lib.alloc_old _ _ _ (by simp)).trans ?_)
    have := heap_alloc_new (w.alloc a) b
    rwa [World.size_alloc] at this
  · refine (Lib.alloc_old _ _ _ (by simp)).trans ?_
    have := heap_alloc_new ((w.alloc a).alloc b) c
    rwa [World.size_alloc, World.size_alloc] at this
  · have := heap_alloc_new (((w.alloc a).alloc b).alloc c) d
    rwa [World.size_alloc, World.size_alloc, World.size_alloc] at this

theorem infoTree : (Try.prog.info? 63).map (fun i => (i.zero, i.size, i.bytes)) = some (some (.agg #[.string ⟨#[]⟩, .slice none 0 0]), 2, 40) := by kernel_rfl

set_option maxRecDepth 100000 in
set_option maxHeartbeats 1600000 in
theorem l1Replace_any (atom : ByteArray) (g : Tree) (hne : atom.toList ≠ []) (n : Nat) :
    ∀ (t : Tree) (A C : Nat → Prop) (v : Value) (ga : ByteArray) (go : Option Addr) (gl gc : Nat) (w : World), t.sz ≤ n → Rep w A t v → Rep w C g (.agg #[.string ga, .slice go gl gc]) → (∀ b, C b → b < w.heap.size) → t.sz ≤ 1000000000 → t.good = true →
    Calls Try.prog 77 #[v, .string atom, .agg #[.string ga, .slice go gl gc]] w (PutR C (t.subst (putF atom g)) w) := by
  have hne1 : (atom.toList == []) = false := by simpa using hne
  have hne2 : atom.toList.isEmpty = false := by simpa using hne
  induction n with
  | zero => intro t A C v ga go gl gc w h; cases t; simp [Tree.sz] at h
  | succ n ih =>
    intro t A C v ga go gl gc w hn hr hg hC hb hgood
    obtain ⟨s, ps⟩ := t
    simp only [Rep] at hr
    obtain ⟨o, ln, c, rfl, hs, hcap⟩ := hr
    obtain rfl := hs.len
    obtain ⟨hgl, hge⟩ := Tree.good_parts hgood
    have HC := Lib.hid hC
    have HG := Lib.hid hg
    clear hg hC
    by_cases hp : ps = []
    · subst hp
      have ht : (Tree.node s []).subst (putF atom g) = putF atom g s := by simp [Tree.subst]
      rw [ht]
      have hemp : s.toList.isEmpty = false := by rw [Lib.toList_data]; simpa using hge.1 rfl
      have hemp2 : (s.toList == []) = false := by rw [Lib.toList_data]; simpa using hge.1 rfl
      clear ht hge hgl ih
      have bel0 : Below w.heap.size w (((w.alloc (.cells #[.string s, .slice o ([] : List Tree).length c] 63)).alloc (.cells #[.string ga, .slice go gl gc] 63)).alloc (.cells #[.string ⟨#[]⟩, .slice none 0 0] 63)) := (((Below.refl _ _).alloc (Nat.le_refl _) _).alloc (by simp) _).alloc (by simp; omega) _
      by_cases he : (s.toList == atom.toList) = true
      · have HE : Hid (putF atom g s = g) := by show _ = _; unfold putF; rw [if_pos he]
        go_enter Try.func77, Try.ntmps77
        go_wp2
        exact bodyPost_ret (v := .agg #[.string ga, .slice go gl gc]) (by simp [results, Try.results77, go_sem]) rfl ⟨ga, go, gl, gc, rfl, by
          rw [HE.out]; exact Rep.weak (fun b hb => .inl hb) _ _ (Rep.keep (by repeat' (first | exact Keeps.refl _ _ | refine Keeps.setCell ?_ (fun b hb => by have := HC.out b hb; simp; omega) _ | refine Keeps.alloc' ?_ _)) _ _ HG.out), by repeat' (first | exact Below.refl _ _ | refine Below.setCell ?_ (by simp; omega) _ | refine Below.alloc ?_ (by simp; try omega) _)⟩
      · have he' : (s.toList == atom.toList) = false := by simpa using he
        have HE : Hid (putF atom g s = .node s []) := by show _ = _; unfold putF; rw [if_neg he]
        clear he
        go_enter Try.func77, Try.ntmps77
        go_wp2
        exact bodyPost_ret (v := .agg #[.string s, .slice o 0 c]) (by simp [results, Try.results77, go_sem]) rfl ⟨s, o, 0, c, rfl, by
          rw [HE.out]; simp only [Rep]; exact ⟨o, 0, c, rfl, RepS.nil _ _ _, Nat.zero_le _⟩, by repeat' (first | exact Below.refl _ _ | refine Below.setCell ?_ (by simp; omega) _ | refine Below.alloc ?_ (by simp; try omega) _)⟩
    · have hse : s.toList = [] := by rw [Lib.toList_data]; exact Classical.byContradiction fun h => hp (hge.2 h)
      have hemp : s.toList.isEmpty = true := by rw [hse]; rfl
      have hemp2 : (s.toList == []) = true := by rw [hse]; rfl
      have hsa : (s.toList == atom.toList) = false := by rw [hse]; cases h : atom.toList with
        | nil => exact absurd h hne
        | cons => rfl
      have ht : (Tree.node s ps).subst (putF atom g) = .node ⟨#[]⟩ (Tree.substL (putF atom g) ps) := by simp [Tree.subst, hp]
      rw [ht]
      obtain ⟨i0, hi, hz0, hz1, hz2⟩ := info_parts infoTree
      have hl2 := Tree.length_le_szL ps
      have HGL := Lib.hid hgl
      simp only [Tree.sz] at hb hn
      clear ht hp hge hgl hse
      go_enter Try.func77, Try.ntmps77
      go_wp2
      go_loopw [8] (fun iv wr => ∃ (L : List Tree) (o1 : Option Addr) (c1 : Nat), Hid (L = Tree.substL (putF atom g) (ps.take L.length)) ∧ L.length ≤ ps.length ∧ iv = .int .i64 L.length ∧ Hid (wr.heap[w.heap.size + 1 + 1 + 1]? = some (.cells #[.string ⟨#[]⟩, .slice o1 L.length c1] 63 (0, 0))) ∧
          Hid (wr.heap[w.heap.size]? = some (.cells #[.string s, .slice o ps.length c] 63 (0, 0))) ∧ Hid (wr.heap[w.heap.size + 1]? = some (.cells #[.string ga, .slice go gl gc] 63 (0, 0))) ∧ Hid (wr.heap[w.heap.size + 1 + 1]? = some (.cells #[.string ⟨#[]⟩, .slice none 0 0] 63 (0, 0))) ∧
          Hid (URow wr (w.heap.size + 1 + 1 + 1 + 1) C 63 (.slice o1 L.length c1) L) ∧ Below w.heap.size w wr) (fun iv _ => ps.length - (intOf iv).toNat)
      case atStart =>
        obtain ⟨q0, q1, q2, q3⟩ := heap4 w (.cells #[.string s, .slice o ps.length c] 63) (.cells #[.string ga, .slice go gl gc] 63) (.cells #[.string ⟨#[]⟩, .slice none 0 0] 63) (.cells #[.string ⟨#[]⟩, .slice none 0 0] 63)
        exact ⟨[], none, 0, rfl, Nat.zero_le _, rfl, q3, q0, q1, q2, URow.nil _ _ _ _, (((((Below.refl _ _).alloc (Nat.le_refl _) _).alloc (by simp) _).alloc (by simp; omega) _).alloc (by simp; omega) _)⟩
      case round =>
        obtain ⟨L, o1, cc, HL, hk, rfl, HO, H0, H1, H2, HU, hbr⟩ := hrel
        have hlO : w.heap.size + 1 + 1 + 1 < wr.heap.size := (Array.getElem?_eq_some_iff.1 HO.out).1
        obtain ⟨a0, a1⟩ := box_cells H0.out
        obtain ⟨b0, b1⟩ := box_cells H1.out
        obtain ⟨r0, r1⟩ := box_cells H2.out
        have fr0 : wr.frozen? ⟨w.heap.size + 1 + 1, 0, none⟩ = false := Lib.frozen_of_heap H2.out 0
        have fr1 : wr.frozen? ⟨w.heap.size + 1 + 1, 1, none⟩ = false := Lib.frozen_of_heap H2.out 1
        obtain ⟨d0, d1⟩ := box_cells HO.out
        by_cases hlt : L.length < ps.length
        · obtain ⟨p, hp⟩ : ∃ p, ps[L.length]? = some p := ⟨ps[L.length], by simp [hlt]⟩
          obtain ⟨b, off, o', n', c', rfl, -, hx, hy, hrp⟩ := (RepS.keep (Keeps.below hbr) _ _ _ (RepS.bound _ _ _ hs)).partAt hp
          have HT : Hid (Tree.substL (putF atom g) (ps.take (L.length + 1)) = L ++ [p.subst (putF atom g)]) := by show _ = _; rw [Tree.substL_take _ ps L.length p hp, ← HL.out]
          have h3 : p.sz ≤ n := by have := Tree.sz_part ps L.length p hp; omega
          have h4 : p.sz ≤ 1000000000 := by have := Tree.sz_part ps L.length p hp; omega
          have h6 := Tree.good_part ps L.length p hp HGL.out
          have hbb : b < w.heap.size := by
            have hs' := RepS.bound _ _ _ hs
            obtain ⟨b', off', x, y, e, hA, -⟩ := hs'.part hp
            simp at e
            rw [e.1]; exact hA.2
          have HCC : Hid (∀ W, Below wr.heap.size wr W → Calls Try.prog 77 #[.agg #[.string p.atom, .slice o' n' c'], .string atom, .agg #[.string ga, .slice go gl gc]] W
              (fun e w' => ∃ a'' o'' l'' c'', e = .returned (.agg #[.string a'', .slice o'' l'' c'']) ∧ Hid (Rep w' (fun b => (C b ∨ w.heap.size + 1 + 1 + 1 + 1 ≤ b) ∧ b < w'.heap.size ∧ (Value.slice o1 L.length cc).ownBlock ≠ some b) (p.subst (putF atom g)) (.agg #[.string a'', .slice o'' l'' c''])) ∧ Hid (URow w' (w.heap.size + 1 + 1 + 1 + 1) C 63 (.slice o1 L.length cc) L) ∧ Below wr.heap.size wr w')) := by
            intro W hW
            have hWs := hW.size
            refine (ih p _ C (.agg #[.string p.atom, .slice o' n' c']) ga go gl gc W h3 (Rep.keep (Keeps.below hW) _ _ hrp) (Rep.keep ((Keeps.below hbr).trans (Keeps.below hW)) _ _ HG.out) (fun b hb => by have := HC.out b hb; omega) h4 h6).mono ?_
            rintro e w' ⟨a'', o'', l'', c'', rfl, hr, hb⟩
            have hzz := hb.size
            refine ⟨a'', o'', l'', c'', rfl, Rep.weak (fun b hb => ⟨hb.1.imp id (by omega), hb.2, fun e => ?_⟩) _ _ (Rep.bound _ _ hr), HU.out.below (hW.trans (hb.mono hWs)), hW.trans (hb.mono hWs)⟩
            have h5 := HU.out.ownLt e
            rcases hb.1 with h6 | h6
            · have := HC.out b h6; omega
            · omega
          have hlen0 : (0 : Int) ≤ (L.length : Int) := Int.natCast_nonneg _
          have hlen1 : (L.length : Int) < (ps.length : Int) := by omega
          have hS : ∀ w', Below (w.heap.size + 1 + 1 + 1) wr w' → w'.cell? ⟨w.heap.size, 1, none⟩ = some (.slice (some ⟨b, off, none⟩) ps.length c) ∧ w'.cell? ⟨b, off + L.length * 2, none⟩ = some (.string p.atom) ∧ w'.cell? ⟨b, off + L.length * 2 + 1, none⟩ = some (.slice o' n' c') ∧ w'.cell? ⟨w.heap.size + 1, 0, none⟩ = some (.string ga) ∧ w'.cell? ⟨w.heap.size + 1, 1, none⟩ = some (.slice go gl gc) :=
            fun w' h => ⟨(h.cell (p := ⟨w.heap.size, 1, none⟩) (by simp; omega)).trans a1, (h.cell (p := ⟨b, _, none⟩) (by simp; omega)).trans hx, (h.cell (p := ⟨b, _, none⟩) (by simp; omega)).trans hy, (h.cell (p := ⟨w.heap.size + 1, 0, none⟩) (by simp)).trans b0, (h.cell (p := ⟨w.heap.size + 1, 1, none⟩) (by simp)).trans b1⟩
          have HS := Lib.hid hS
          have hLn : L.length ≤ 1000000000 := by omega
          clear hS hp hrp h3 h4 h6 ih
          go_wp2_with fail
          go_region_law (first
              | (refine step_append_utree (by rfl) (.tmp 31) (.tmp 40) 61 (by rfl) (w.heap.size + 1 + 1 + 1 + 1) C 63 i0 _ 40 Try.underlying61 hi hz0 hz1 hz2 rfl (by decide) (.slice o1 L.length cc) (by rfl) L (by first | exact HU2.out.alloc _ | exact (HU2.out.alloc _).drew) w2.heap.size 0 1 (by rfl) (p.subst (putF atom g)) (.string a'') (.slice o'' l'' c'') (two_new w2 _ _ _).1 (two_new w2 _ _ _).2 rfl rfl (A := fun b => (C b ∨ w.heap.size + 1 + 1 + 1 + 1 ≤ b) ∧ b < w2.heap.size ∧ (Value.slice o1 L.length cc).ownBlock ≠ some b) (Rep.keep (Keeps.alloc _ w2 (.cells #[.string a'', .slice o'' l'' c''] 63)) _ _ HR2.out) (fun b hb => ⟨hb.1, by have := hb.2.1; simp <;> omega, hb.2.2⟩) hLn (by have := hbS2.size; simp <;> omega) ?_; intro g' cap w3 HU3 hb3; have hbS3 := (hbS2.alloc (by have := hbS2.size; omega) (.cells #[.string a'', .slice o'' l'' c''] 63)).trans (hb3.mono (by omega)); have hO3 := (hb3.block (w.heap.size + 1 + 1 + 1) (by omega)).trans ((Below.heap_alloc w2 (.cells #[.string a'', .slice o'' l'' c''] 63) _ (by have := hbS2.size; omega)).trans HO2.out); obtain ⟨k0, k1⟩ := box_cells hO3; have k2 := Lib.frozen_of_heap hO3 1; have k3 : w.heap.size + 1 + 1 + 1 < w3.heap.size := (by have := hbS3.size; omega); have HO3 := Lib.hid hO3; clear hO3; have HU3' := Lib.hid HU3; clear HU3)
              | (go_simp; go_wp2_with (go_at_call 77; refine (HCC.out _ ?_).mono ?_; (first | exact (Below.refl _ _) | exact (Below.refl _ _).drew); rintro e w2 ⟨a'', o'', l'', c'', rfl, HR2, HU2, hb2⟩; have hbS2 : Below (w.heap.size + 1 + 1 + 1) wr w2 := hb2.mono (by omega); have hl2' : w.heap.size + 1 + 1 + 1 < w2.heap.size := (by have := hb2.size; omega); have HO2 := Lib.hid ((hb2.block (w.heap.size + 1 + 1 + 1) (by omega)).trans HO.out); obtain ⟨g0, g1⟩ := box_cells HO2.out)))
          all_goals
            have hO4 := heap_setCell_same w3 (w.heap.size + 1 + 1 + 1) 1 _ _ (.slice (some ⟨g', 0, none⟩) (L.length + 1) cap) HO3.out
            have hO4 := Lib.hid hO4
            have HU4 := Lib.hid (HU3'.out.setCell (a := ⟨w.heap.size + 1 + 1 + 1, 1, none⟩) (by simp) (fun h => by have := HC.out _ h; simp at this; omega) (.slice (some ⟨g', 0, none⟩) (L.length + 1) cap))
            have HB4 : Hid (Below w.heap.size w (w3.setCell ⟨w.heap.size + 1 + 1 + 1, 1, none⟩ (.slice (some ⟨g', 0, none⟩) (L.length + 1) cap))) := (hbr.trans (hbS3.mono (by omega))).setCell (by simp; omega) _
            have hw3 : Below (w.heap.size + 1 + 1 + 1) wr (w3.setCell ⟨w.heap.size + 1 + 1 + 1, 1, none⟩ (.slice (some ⟨g', 0, none⟩) (L.length + 1) cap)) := hbS3.setCell (by simp) _
            have E0 := Lib.hid ((hw3.block w.heap.size (by omega)).trans H0.out)
            have E1 := Lib.hid ((hw3.block (w.heap.size + 1) (by omega)).trans H1.out)
            have E2 := Lib.hid ((hw3.block (w.heap.size + 1 + 1) (by omega)).trans H2.out)
            have HLT : Hid (L ++ [p.subst (putF atom g)] = Tree.substL (putF atom g) (ps.take (L ++ [p.subst (putF atom g)]).length)) := by show _ = _; rw [List.length_append, List.length_singleton, HT.out]
            clear HO3 HU3' hb3 HU2 HR2 HCC hw3 hbS3 hbS2 hb2 HO2 HS
            go_wp2
            go_roundw
            case rel => exact ⟨L ++ [p.subst (putF atom g)], some ⟨g', 0, none⟩, cap, HLT, by simp; omega, by simp, by simpa using hO4, E0, E1, E2, by simpa using HU4, HB4.out⟩
            case measure => simp [intOf]; omega
        · have HF : Hid (L = Tree.substL (putF atom g) ps) := by
            have := HL.out
            rwa [List.take_of_length_le (by omega)] at this
          have hlr : w.heap.size + 1 + 1 < wr.heap.size := by omega
          go_wp2
          exact bodyPost_ret (v := .agg #[.string ⟨#[]⟩, .slice o1 L.length cc]) (by simp [results, Try.results77, go_sem, r0, r1]) rfl ⟨⟨#[]⟩, o1, L.length, cc, rfl, by
            rw [← HF.out]
            refine Rep.weak (fun b hb => ?_) _ _ (Rep.keep (((Keeps.refl _ _).setCell (fun b hb => ?_) _).setCell (fun b hb => ?_) _) _ _ (HU.out.rep ⟨#[]⟩))
            · rcases hb with hb | hb
              · exact .inl hb
              · right; omega
            · rcases hb with hb | hb
              · have := HC.out b hb; simp; omega
              · simp; omega
            · rcases hb with hb | hb
              · have := HC.out b hb; simp; omega
              · simp; omega, (hbr.setCell (by simp; omega) _).setCell (by simp; omega) _⟩

end Go.Proofs.Ytginaebioijcpaa
