/- TargetPut of the program. -/
import Derived.Test.YtcobcmgmleblkaaPutP
import Derived.Test.YtcobcmgmleblkaaReplF
import Derived.Test.YtcobcmgmleblkaaTarget
import Derived.Test.YtcobcmgmleblkaaTgtT
namespace Go.Proofs.Ytcobcmgmleblkaa
open Go.RowKit

theorem one_cellP {w : World} {b : Nat} {v : Value} {ty : TypeId} (h : w.heap[b]? = some (.cells #[v] ty (0, 0))) : w.cell? ⟨b, 0, none⟩ = some v ∧ w.frozen? ⟨b, 0, none⟩ = false :=
  ⟨by simp only [World.cell?, h]; rfl, by simp only [World.frozen?, h]; rfl⟩

/-- What counting v keeps: the count's box. -/
def CntV (B : Nat) (l : List ByteArray) (w : World) : Prop :=
  B < w.heap.size ∧ w.heap[B]? = some (.cells #[.int .i64 ((l.countP (fun a => a.toList == [118]) : Nat) : Int)] 3 (0, 0))

theorem CntV.below {B : Nat} {l : List ByteArray} {w w' : World} (h : CntV B l w) (hb : Below w.heap.size w w') : CntV B l w' :=
  ⟨Nat.lt_of_lt_of_le h.1 hb.size, (hb.block _ h.1).trans h.2⟩

theorem targetPut1_any (B : Nat) (l : List ByteArray) (s : ByteArray) (w : World) (h : CntV B l w) (hl : l.length ≤ 1000000) :
    Calls Try.prog 51 (#[.string s] ++ #[.pointer (some ⟨B, 0, none⟩)]) w (ToldR (CntV B) B (l ++ [s]) w) := by
  obtain ⟨h2, h4⟩ := h
  obtain ⟨c3, c4⟩ := one_cellP h4
  have hcn : l.countP (fun a => a.toList == [118]) ≤ 1000000 := Nat.le_trans List.countP_le_length hl
  have HN : Hid ((l ++ [s]).countP (fun a => a.toList == [118]) = l.countP (fun a => a.toList == [118]) + (if s.toList == [118] then 1 else 0)) := by
    show _ = _; rw [List.countP_append]; simp [List.countP_cons]
  have H4 := Lib.hid h4
  generalize l.countP (fun a => a.toList == [118]) = n at *
  by_cases he : (s.toList == [118]) = true
  · rw [he] at HN
    simp only [if_true] at HN
    clear h4
    rw [show (#[Value.string s] ++ #[.pointer (some ⟨B, 0, none⟩)]) = #[Value.string s, .pointer (some ⟨B, 0, none⟩)] from rfl]
    go_enter Try.func51, Try.ntmps51
    go_wp2
    go_end0
    refine ⟨rfl, ⟨by simpa [World.setCell] using h2, ?_⟩, (Below.refl B w).setCell (by simp) _, ?_⟩
    · rw [HN.out]
      refine (heap_setCell_same w B 0 _ _ _ H4.out).trans ?_
      simp
    · intro k c fz hk
      rw [Below.heap_setCell _ _ _ _ (fun e => by simp at e; subst e; rw [H4.out] at hk; simp at hk)]
      exact hk
  · have he' : (s.toList == [118]) = false := by simpa using he
    rw [he'] at HN
    simp only [Bool.false_eq_true, if_false, Nat.add_zero] at HN
    clear h4 he
    rw [show (#[Value.string s] ++ #[.pointer (some ⟨B, 0, none⟩)]) = #[Value.string s, .pointer (some ⟨B, 0, none⟩)] from rfl]
    go_enter Try.func51, Try.ntmps51
    go_wp2
    go_end0
    exact ⟨rfl, ⟨h2, by rw [HN.out]; exact H4.out⟩, Below.refl _ _, FormsKept.below (Below.refl _ _)⟩

set_option maxRecDepth 100000 in
set_option maxHeartbeats 3200000 in
theorem targetPut_any (s by_ : ByteArray) (w : World) (hs : s.size ≤ 1000000000) (hb : by_.size ≤ 1000000000) :
    Calls Try.prog 21 #[.string s, .string by_] w (StrR (putOf unkI s.data.toList by_.data.toList) w) := by
  have HN1 := Lib.hid (fun h => putOf_none1 (u := unkI) (s := s.data.toList) (b := by_.data.toList) h)
  have HN2 := Lib.hid (fun h => putOf_none2 (u := unkI) (s := s.data.toList) (b := by_.data.toList) h)
  have HN5 := Lib.hid (fun t g h1 h2 => putOf_some (u := unkI) (s := s.data.toList) (b := by_.data.toList) (t := t) (g := g) h1 h2)
  generalize putOf unkI s.data.toList by_.data.toList = res at *
  have HR1 := Lib.hid (fun W => read_any s W hs)
  have HR2 := Lib.hid (fun W => read_any by_ W hb)
  cases hp1 : parse s.data.toList with
  | none =>
    have hres := HN1.out hp1
    have HP1 := Lib.hid hp1
    subst hres
    clear hp1 HN1 HN2 HN5
    go_enter Try.func21, Try.ntmps21
    go_wp2_with fail
    refine (HR1.out _).mono ?_
    rintro e w1 ⟨a, o, l, c, ok, t, rfl, hb1, -, hok, -⟩
    rw [HP1.out] at hok
    have hok' : ok = false := hok
    subst hok'
    clear hok
    have hbw1 := hb1.alloc hb1.size (.cells #[.string a, .slice o l c] 38)
    go_wp2_with fail
    refine (HR2.out _).mono ?_
    rintro e w2 ⟨a2, o2, l2, c2, ok2, t2, rfl, hb2, -, -, -⟩
    have hbw2 := hbw1.trans (hb2.mono hbw1.size)
    go_wp2
    go_ret2
    exact ⟨rfl, hbw2.alloc hbw2.size _⟩
  | some t =>
    cases hp2 : parse by_.data.toList with
    | none =>
      have hres := HN2.out hp2
      have HP1 := Lib.hid hp1
      have HP2 := Lib.hid hp2
      subst hres
      clear hp1 hp2 HN1 HN2 HN5
      go_enter Try.func21, Try.ntmps21
      go_wp2_with fail
      refine (HR1.out _).mono ?_
      rintro e w1 ⟨a, o, l, c, ok, t', rfl, hb1, -, hok, -⟩
      rw [HP1.out] at hok
      have hok' : ok = true := hok
      subst hok'
      clear hok
      have hbw1 := hb1.alloc hb1.size (.cells #[.string a, .slice o l c] 38)
      go_wp2_with fail
      refine (HR2.out _).mono ?_
      rintro e w2 ⟨a2, o2, l2, c2, ok2, t2, rfl, hb2, -, hok, -⟩
      rw [HP2.out] at hok
      have hok' : ok2 = false := hok
      subst hok'
      clear hok
      have hbw2 := hbw1.trans (hb2.mono hbw1.size)
      go_wp2
      go_ret2
      exact ⟨rfl, hbw2.alloc hbw2.size _⟩
    | some g =>
      have HP1 := Lib.hid hp1
      have HP2 := Lib.hid hp2
      have hz1 := parse_sz hp1
      have hz2 := parse_sz hp2
      have hl1 := parse_text_le hp1
      have hl2 := parse_text_le hp2
      have hq1 := (parse_size hp1).2
      have HG1 := Lib.hid (parse_good hp1)
      have HG2 := Lib.hid (parse_good hp2)
      have HPB := Lib.hid (put_bound hl2 hl1 hz1)
      have HPG := Lib.hid (put_good HG2.out t HG1.out)
      have HA1 := Lib.hid (atomsLe_of (m := 1000000000) t (by omega) HG1.out)
      have HA2 := Lib.hid (atomsLe_of (m := 1000000000) g (by omega) HG2.out)
      have HT1 := Lib.hid (fun (D : Nat → Prop) v W hr => isTarget_any true _ t true D v W (Nat.le_refl _) hr (by omega) (fun _ => HA1.out))
      have HT2 := Lib.hid (fun (D : Nat → Prop) v W hr => isTarget_any true _ g false D v W (Nat.le_refl _) hr (by omega) (fun _ => HA2.out))
      have hres := HN5.out t g hp1 hp2
      have hge : g.text.length = by_.size := by rw [← ((parse_iff _ _).1 hp2).1, ← size_data]
      rw [hge] at hl2
      have hss : t.size ≤ 24000 := Nat.le_trans (Tree.size_le_sz t) hz1
      have HAA : Hid (∀ x ∈ t.atoms, x.size ≤ 1000000000) := fun x hx => by
        have := Tree.atoms_size t x hx; omega
      clear hp1 hp2 HN1 HN2 HN5 HA1 HA2 HG1 HG2 hge
      generalize ht1 : t.target unkI true true = t1 at HT1 hres
      generalize ht2 : g.target unkI false true = t2 at HT2 hres
      clear ht1 ht2
      have HRES := Lib.hid hres
      clear hres
      go_enter Try.func21, Try.ntmps21
      go_wp2_with fail
      refine (HR1.out _).mono ?_
      rintro e w1 ⟨a, o, l, c, ok, t', rfl, hb1, hr1, hok, ht⟩
      rw [HP1.out] at hok
      have hok' : ok = true := hok
      subst hok'
      obtain rfl := ht _ HP1.out
      clear hok ht
      have hbw1 := hb1.alloc hb1.size (.cells #[.string a, .slice o l c] 38)
      have hs1 := hb1.size
      have HX1 := Lib.hid (heap_alloc_new w1 (.cells #[.string a, .slice o l c] 38))
      have HQ1 := Lib.hid (Rep.keep (Keeps.alloc _ w1 (.cells #[.string a, .slice o l c] 38)) _ _ (Rep.bound _ _ hr1))
      clear hr1 hb1
      go_wp2_with fail
      refine (HR2.out _).mono ?_
      rintro e w2 ⟨a2, o2, l2, c2, ok2, g', rfl, hb2, hr2, hok, ht⟩
      rw [HP2.out] at hok
      have hok' : ok2 = true := hok
      subst hok'
      obtain rfl := ht _ HP2.out
      clear hok ht
      have hs2 := hb2.size
      simp only [World.size_alloc] at hs2
      have hx1 := box_kept (.cells #[.string a2, .slice o2 l2 c2] 38) ((hb2.block w1.heap.size (by simp)).trans HX1.out)
      have hx2 := heap_alloc_new w2 (.cells #[.string a2, .slice o2 l2 c2] 38)
      have hbw2 := hbw1.trans (hb2.mono hbw1.size)
      have HB3 := Lib.hid (hbw2.alloc hbw2.size (.cells #[.string a2, .slice o2 l2 c2] 38))
      have HQ3 := Lib.hid (Rep.keep ((Keeps.below hb2).trans (Keeps.alloc _ w2 (.cells #[.string a2, .slice o2 l2 c2] 38))) _ _ HQ1.out)
      have HQ4 := Lib.hid (Rep.keep (Keeps.alloc _ w2 (.cells #[.string a2, .slice o2 l2 c2] 38)) _ _ (Rep.bound _ _ hr2))
      obtain ⟨c0, c1⟩ := box_cells hx1
      have HX3 := Lib.hid hx1
      have HX4 := Lib.hid hx2
      clear hx1 hx2 hb2 hr2 HQ1 HX1 hbw1 hbw2
      cases t1 with
      | false =>
        have hres : res = none := by rw [HRES.out]; rfl
        clear HRES
        subst hres
        go_wp2_with fail
        refine (HT1.out _ _ _ HQ3.out).mono ?_
        rintro e w3 ⟨rfl, hb3⟩
        go_wp2
        go_ret2
        exact ⟨rfl, HB3.out.trans (hb3.mono HB3.out.size)⟩
      | true =>
        go_wp2_with fail
        refine (HT1.out _ _ _ HQ3.out).mono ?_
        rintro e w3 ⟨rfl, hb3⟩
        have hx1 := (hb3.block w1.heap.size (by simp only [World.size_alloc]; omega)).trans HX3.out
        have hx2 := (hb3.block w2.heap.size (by simp)).trans HX4.out
        have hs3 := hb3.size
        simp only [World.size_alloc] at hs3
        clear c0 c1
        obtain ⟨c0, c1⟩ := box_cells hx1
        obtain ⟨d0, d1⟩ := box_cells hx2
        have HX5 := Lib.hid hx1
        have HX6 := Lib.hid hx2
        have HB4 := Lib.hid (HB3.out.trans (hb3.mono HB3.out.size))
        have HQ5 := Lib.hid (Rep.keep (Keeps.below hb3) _ _ HQ3.out)
        have HQ6 := Lib.hid (Rep.keep (Keeps.below hb3) _ _ HQ4.out)
        clear hb3 HQ3 HQ4 HX3 HX4 HB3 hx1 hx2
        cases t2 with
        | false =>
          have hres : res = none := by rw [HRES.out]; rfl
          clear HRES
          subst hres
          go_wp2_with fail
          refine (HT2.out _ _ _ HQ6.out).mono ?_
          rintro e w4 ⟨rfl, hb4⟩
          go_wp2
          go_ret2
          exact ⟨rfl, HB4.out.trans (hb4.mono HB4.out.size)⟩
        | true =>
          rw [Bool.true_and, if_pos rfl] at HRES
          go_wp2_with fail
          refine (HT2.out _ _ _ HQ6.out).mono ?_
          rintro e w4 ⟨rfl, hb4⟩
          have hs4 := hb4.size
          have hx1 := (hb4.block w1.heap.size (by omega)).trans HX5.out
          have hx2 := (hb4.block w2.heap.size (by omega)).trans HX6.out
          clear c0 c1 d0 d1
          obtain ⟨c0, c1⟩ := box_cells hx1
          have HX7 := Lib.hid hx1
          have HX8 := Lib.hid hx2
          have HB5 := Lib.hid (HB4.out.trans (hb4.mono HB4.out.size))
          have HQ7 := Lib.hid (Rep.keep (Keeps.below hb4) _ _ HQ5.out)
          have HQ8 := Lib.hid (Rep.keep (Keeps.below hb4) _ _ HQ6.out)
          clear hb4 HQ5 HQ6 HX5 HX6 HB4 hx1 hx2 HR1 HR2 HP1 HP2 HT1 HT2
          have bel1 : Below w4.heap.size w4 (w4.alloc (.cells #[.int .i64 0] 3)) := (Below.refl _ _).alloc (Nat.le_refl _) _
          have hlw1 : w1.heap.size < w4.heap.size := by omega
          have hI : CntV w4.heap.size [] (w4.alloc (.cells #[.int .i64 0] 3)) := ⟨by simp, heap_alloc_new _ _⟩
          have HAC := Lib.hid (atoms_any 51 (fun _ _ => by kernel_rfl) #[.pointer (some ⟨w4.heap.size, 0, none⟩)] (CntV w4.heap.size) w4.heap.size 1000000 (fun _ _ _ h hb => h.below hb) (fun _ _ h => Nat.le_of_lt h.1) (fun l s w h hl _ => targetPut1_any _ l s w h hl) _ t' _ _ [] _ (Nat.le_refl _)
            (Rep.keep (Keeps.below bel1) _ _ HQ7.out) (fun b hb => by have := hb.2; omega) hI (by simp; omega) (by omega) HAA.out)
          rw [List.nil_append] at HAC
          clear hI
          go_wp2_with fail
          refine HAC.out.mono ?_
          rintro e w5 ⟨rfl, hi5, hb5, -⟩
          obtain ⟨k2, k4⟩ := hi5
          have hb45 : Below w4.heap.size w4 w5 := bel1.trans hb5
          have hx1 := (hb45.block w1.heap.size hlw1).trans HX7.out
          have hx2 := (hb45.block w2.heap.size (by omega)).trans HX8.out
          obtain ⟨cn5, fn5⟩ := one_cellP k4
          clear c0 c1
          obtain ⟨c0, c1⟩ := box_cells hx1
          obtain ⟨d0, d1⟩ := box_cells hx2
          have hs5 := hb45.size
          have HB6 := Lib.hid (HB5.out.trans (hb45.mono HB5.out.size))
          have HQ9 := Lib.hid (Rep.keep (Keeps.below hb45) _ _ HQ7.out)
          have HQA := Lib.hid (Rep.keep (Keeps.below hb45) _ _ HQ8.out)
          have HX9 := Lib.hid hx1
          have HXA := Lib.hid hx2
          have hcn : t'.atoms.countP (fun a => a.toList == [118]) ≤ 24000 := by
            refine Nat.le_trans List.countP_le_length ?_
            rw [Tree.atoms_le]; exact hss
          clear HAC hb5 bel1 hb45 hx1 hx2 HX7 HX8 HQ7 HQ8 HB5
          generalize t'.atoms.countP (fun a => a.toList == [118]) = n at *
          have hsz : t'.sz ≤ 1000000000 := by omega
          have HOP := Lib.hid (fun W (h : Below w5.heap.size w5 W) => opened_any g' _ t' _ _ _ a2 o2 l2 c2 W (Nat.le_refl _) (Rep.keep (Keeps.below h) _ _ HQ9.out) (Rep.keep (Keeps.below h) _ _ HQA.out) (fun b hb => by have := hb.2; have := h.size; omega) (fun b hb => by have := hb.2; have := h.size; omega) hsz)
          generalize t'.put g' = U at *
          have hUl := HPB.out
          have hUz : U.sz ≤ 1000000000 := by have := Tree.sz_le_text U HPG.out; omega
          have HFIT := Lib.hid (fun (D : Nat → Prop) v W hr => fits_any U D v W hr hUz (by omega))
          rw [show (decide (U.depth ≤ 60) && decide (U.text.length ≤ 12000)) = U.fits from rfl] at HFIT
          have HLEN := Lib.hid (fun (D : Nat → Prop) v W hr => length_any _ U D v W (Nat.le_refl _) hr (by omega) hUz)
          have HTXT := Lib.hid (fun (D : Nat → Prop) v W hr => text_any U D v W hr hUz (by omega))
          rw [show bts U.text = U.txt from rfl] at HTXT
          have HUF : Hid (¬ U.text.length ≤ 12000 → res = none) := by
            intro h
            have h1 := HRES.out
            unfold Tree.fits at h1
            rw [decide_eq_false h, Bool.and_false] at h1
            simpa using h1
          have HUS : Hid (U.fits = true → res = some U.txt) := fun h => by have h1 := HRES.out; rw [if_pos h] at h1; exact h1
          have HUN : Hid (U.fits = false → res = none) := fun h => by have h1 := HRES.out; rw [h] at h1; simpa using h1
          clear HRES HPG HPB
          by_cases hn : n = 0
          · subst hn
            go_wp2_with fail
            refine (HOP.out _ (Below.refl _ _)).mono ?_
            rintro e w6 ⟨a6, o6, l6, c6, rfl, hr6, hb6⟩
            have hbw6 := HB6.out.trans (hb6.mono HB6.out.size)
            have HR6 := Lib.hid (Rep.keep (Keeps.alloc _ w6 (.cells #[.string a6, .slice o6 l6 c6] 38)) _ _ hr6)
            have HBW6 := Lib.hid (hbw6.alloc hbw6.size (.cells #[.string a6, .slice o6 l6 c6] 38))
            have HX6 := Lib.hid (heap_alloc_new w6 (.cells #[.string a6, .slice o6 l6 c6] 38))
            clear hr6 hb6 hbw6 HOP
            cases hf : U.fits with
            | false =>
              have hres := HUN.out hf
              rw [hf] at HFIT
              subst hres
              clear HUS HUN hf HUF
              go_wp2_with fail
              refine (HFIT.out _ _ _ HR6.out).mono ?_
              rintro e w7 ⟨rfl, hb7⟩
              go_wp2
              go_ret2
              exact ⟨rfl, HBW6.out.trans (hb7.mono HBW6.out.size)⟩
            | true =>
              have hres := HUS.out hf
              rw [hf] at HFIT
              subst hres
              clear HUS HUN hf HUF
              go_wp2_with fail
              refine (HFIT.out _ _ _ HR6.out).mono ?_
              rintro e w7 ⟨rfl, hb7⟩
              have hB7 := HBW6.out.trans (hb7.mono HBW6.out.size)
              obtain ⟨m0, m1⟩ := box_cells ((hb7.block w6.heap.size (by simp)).trans HX6.out)
              have HR7 := Lib.hid (Rep.keep (Keeps.below hb7) _ _ HR6.out)
              clear hb7
              go_wp2_with fail
              refine (HTXT.out _ _ _ HR7.out).mono ?_
              rintro e w8 ⟨rfl, hb8⟩
              have hB8 := hB7.trans (hb8.mono hB7.size)
              go_wp2
              go_ret2
              exact ⟨rfl, hB8⟩
          · have hn0 : decide ((0 : Int) < (n : Int)) = true := by simp; omega
            have hn1 : ¬ (n : Int) = 0 := by omega
            go_wp2_with fail
            rotate_left
            · refine (HOP.out _ (Below.refl _ _)).mono ?_
              rintro e w6 ⟨a6, o6, l6, c6, rfl, hr6, hb6⟩
              have hbw6 := HB6.out.trans (hb6.mono HB6.out.size)
              have HR6 := Lib.hid (Rep.keep (Keeps.alloc _ w6 (.cells #[.string a6, .slice o6 l6 c6] 38)) _ _ hr6)
              have HBW6 := Lib.hid (hbw6.alloc hbw6.size (.cells #[.string a6, .slice o6 l6 c6] 38))
              have HX6 := Lib.hid (heap_alloc_new w6 (.cells #[.string a6, .slice o6 l6 c6] 38))
              clear hr6 hb6 hbw6 HOP
              cases hf : U.fits with
              | false =>
                have hres := HUN.out hf
                rw [hf] at HFIT
                subst hres
                clear HUS HUN hf HUF
                go_wp2_with fail
                refine (HFIT.out _ _ _ HR6.out).mono ?_
                rintro e w7 ⟨rfl, hb7⟩
                go_wp2
                go_ret2
                exact ⟨rfl, HBW6.out.trans (hb7.mono HBW6.out.size)⟩
              | true =>
                have hres := HUS.out hf
                rw [hf] at HFIT
                subst hres
                clear HUS HUN hf HUF
                go_wp2_with fail
                refine (HFIT.out _ _ _ HR6.out).mono ?_
                rintro e w7 ⟨rfl, hb7⟩
                have hB7 := HBW6.out.trans (hb7.mono HBW6.out.size)
                obtain ⟨m0, m1⟩ := box_cells ((hb7.block w6.heap.size (by simp)).trans HX6.out)
                have HR7 := Lib.hid (Rep.keep (Keeps.below hb7) _ _ HR6.out)
                clear hb7
                go_wp2_with fail
                refine (HTXT.out _ _ _ HR7.out).mono ?_
                rintro e w8 ⟨rfl, hb8⟩
                have hB8 := hB7.trans (hb8.mono hB7.size)
                go_wp2
                go_ret2
                exact ⟨rfl, hB8⟩
            · refine (HOP.out _ (Below.refl _ _)).mono ?_
              rintro e v6 ⟨a6, o6, l6, c6, rfl, hr6, hb6⟩
              have hbw6 := HB6.out.trans (hb6.mono HB6.out.size)
              have HR6 := Lib.hid (Rep.keep (Keeps.alloc _ v6 (.cells #[.string a6, .slice o6 l6 c6] 38)) _ _ hr6)
              have HV6 := Lib.hid (hbw6.alloc hbw6.size (.cells #[.string a6, .slice o6 l6 c6] 38))
              have hv56 := hb6.alloc hb6.size (.cells #[.string a6, .slice o6 l6 c6] 38)
              have HV56 := Lib.hid hv56
              clear hr6 hb6 hbw6 hv56
              by_cases hlen : U.text.length ≤ 12000
              · have hlen2 : ((U.text.length : Nat) : Int) ≤ 12000 := by omega
                go_wp2_with fail
                refine (HLEN.out _ _ _ HR6.out).mono ?_
                rintro e v7 ⟨rfl, hb7⟩
                have hv57 := HV56.out.trans (hb7.mono HV56.out.size)
                have HV57 := Lib.hid hv57
                have HV7 := Lib.hid (HV6.out.trans (hb7.mono HV6.out.size))
                clear c0 c1 d0 d1
                obtain ⟨c0, c1⟩ := box_cells ((hv57.block w1.heap.size (by omega)).trans HX9.out)
                obtain ⟨d0, d1⟩ := box_cells ((hv57.block w2.heap.size (by omega)).trans HXA.out)
                clear hb7 hv57 HR6 HV56 HV6 HX9 HXA
                go_wp2_with fail
                refine (HOP.out _ HV57.out).mono ?_
                rintro e w6 ⟨a6, o6, l6, c6, rfl, hr6, hb6⟩
                have hbw6 := HV7.out.trans (hb6.mono HV7.out.size)
                have HR6 := Lib.hid (Rep.keep (Keeps.alloc _ w6 (.cells #[.string a6, .slice o6 l6 c6] 38)) _ _ hr6)
                have HBW6 := Lib.hid (hbw6.alloc hbw6.size (.cells #[.string a6, .slice o6 l6 c6] 38))
                have HX6 := Lib.hid (heap_alloc_new w6 (.cells #[.string a6, .slice o6 l6 c6] 38))
                clear hr6 hb6 hbw6 HOP
                cases hf : U.fits with
                | false =>
                  have hres := HUN.out hf
                  rw [hf] at HFIT
                  subst hres
                  clear HUS HUN hf HUF
                  go_wp2_with fail
                  refine (HFIT.out _ _ _ HR6.out).mono ?_
                  rintro e w7 ⟨rfl, hb7⟩
                  go_wp2
                  go_ret2
                  exact ⟨rfl, HBW6.out.trans (hb7.mono HBW6.out.size)⟩
                | true =>
                  have hres := HUS.out hf
                  rw [hf] at HFIT
                  subst hres
                  clear HUS HUN hf HUF
                  go_wp2_with fail
                  refine (HFIT.out _ _ _ HR6.out).mono ?_
                  rintro e w7 ⟨rfl, hb7⟩
                  have hB7 := HBW6.out.trans (hb7.mono HBW6.out.size)
                  obtain ⟨m0, m1⟩ := box_cells ((hb7.block w6.heap.size (by simp)).trans HX6.out)
                  have HR7 := Lib.hid (Rep.keep (Keeps.below hb7) _ _ HR6.out)
                  clear hb7
                  go_wp2_with fail
                  refine (HTXT.out _ _ _ HR7.out).mono ?_
                  rintro e w8 ⟨rfl, hb8⟩
                  have hB8 := hB7.trans (hb8.mono hB7.size)
                  go_wp2
                  go_ret2
                  exact ⟨rfl, hB8⟩
              · have hlen2 : (12000 : Int) < ((U.text.length : Nat) : Int) := by omega
                have hres := HUF.out hlen
                subst hres
                go_wp2_with fail
                refine (HLEN.out _ _ _ HR6.out).mono ?_
                rintro e v7 ⟨rfl, hb7⟩
                go_wp2
                go_ret2
                exact ⟨rfl, HV6.out.trans (hb7.mono HV6.out.size)⟩
end Go.Proofs.Ytcobcmgmleblkaa
