/- TargetPut of the reference. -/
import Derived.Test.YtcobcmgmleblkaaPutT
import Derived.Deep.RegionHeld3
import Derived.IntWalk
namespace Go.Proofs.Ytcobcmgmleblkaa
open Go.RowKit

set_option maxRecDepth 100000 in
set_option maxHeartbeats 3200000 in
theorem l6tPutText_any (t g : Tree) (A D : Nat → Prop) (ta ga : ByteArray) (so go : Option Addr) (tl tc gl gc : Nat) (w : World) (hr : Rep w A t (.agg #[.string ta, .slice so tl tc])) (hr2 : Rep w D g (.agg #[.string ga, .slice go gl gc]))
    (htl : t.text.length ≤ 12000) (hgl : g.text.length ≤ 12000) (htg : t.good = true) (hgg : g.good = true) :
    Calls Try.prog 59 #[.agg #[.string ta, .slice so tl tc], .agg #[.string ga, .slice go gl gc]] w fun e w' => e = .returned (.string (if (t.put g).text.length ≤ 12000 then (t.put g).txt else ⟨#[]⟩)) ∧ Below w.heap.size w w' := by
  have hz1 := Tree.sz_le_text t htg
  have hz2 := Tree.sz_le_text g hgg
  have hlen := put_len g t
  have hho : t.holes ≤ 24000 := by have := holes_le t; omega
  have hbo := put_bound hgl htl (by omega)
  have HQ := Lib.hid (Rep.keep ((Keeps.alloc _ w (.cells #[.string ta, .slice so tl tc] 46)).trans (Keeps.alloc _ _ (.cells #[.string ga, .slice go gl gc] 46))) _ _ (Rep.bound _ _ hr))
  have HQ2 := Lib.hid (Rep.keep ((Keeps.alloc _ w (.cells #[.string ta, .slice so tl tc] 46)).trans (Keeps.alloc _ _ (.cells #[.string ga, .slice go gl gc] 46))) _ _ (Rep.bound _ _ hr2))
  have HH := Lib.hid (fun (D : Nat → Prop) v W hr => l6tHoles_any _ t D v W (Nat.le_refl _) hr (by omega) htg)
  have HT := Lib.hid (fun v W hr => l1Text_any _ t (fun b => A b ∧ b < w.heap.size) v W (Nat.le_refl _) hr (by omega) (by omega) htg)
  have HT2 := Lib.hid (fun v W hr => l1Text_any _ g (fun b => D b ∧ b < w.heap.size) v W (Nat.le_refl _) hr (by omega) (by omega) hgg)
  have HPG := Lib.hid (put_good hgg t htg)
  have hpz := Tree.sz_le_text _ HPG.out
  have HP := Lib.hid (fun W hr hr2 hA hD => l6tPut_any g _ t (fun b => A b ∧ b < w.heap.size) (fun b => D b ∧ b < w.heap.size) (.agg #[.string ta, .slice so tl tc]) ga go gl gc W (Nat.le_refl _) hr hr2 hA hD (by omega) htg)
  have HX := Lib.hid (fun (C : Nat → Prop) v W hr => l1Text_any _ (t.put g) C v W (Nat.le_refl _) hr (by omega) (by omega) HPG.out)
  rw [show bts (t.put g).text = (t.put g).txt from rfl] at HX
  have hbel : Below w.heap.size w ((w.alloc (.cells #[.string ta, .slice so tl tc] 46)).alloc (.cells #[.string ga, .slice go gl gc] 46)) := ((Below.refl _ _).alloc (Nat.le_refl _) _).alloc (by simp) _
  have hx1 : ((w.alloc (.cells #[.string ta, .slice so tl tc] 46)).alloc (.cells #[.string ga, .slice go gl gc] 46)).heap[w.heap.size]? = some (.cells #[.string ta, .slice so tl tc] 46 (0, 0)) := box_kept _ (heap_alloc_new _ _)
  have hx2 : ((w.alloc (.cells #[.string ta, .slice so tl tc] 46)).alloc (.cells #[.string ga, .slice go gl gc] 46)).heap[w.heap.size + 1]? = some (.cells #[.string ga, .slice go gl gc] 46 (0, 0)) := box_new (by rw [World.size_alloc])
  have HX1 := Lib.hid hx1
  have HX2 := Lib.hid hx2
  have e1 : (bts t.text).size = t.text.length := bts_size _
  have e2 : (bts g.text).size = g.text.length := bts_size _
  clear hx1 hx2 hr hr2 hpz htg hgg hz1 hz2
  generalize t.put g = U at *
  generalize t.text.length = tn at *
  generalize g.text.length = gn at *
  generalize bts t.text = tx at *
  generalize bts g.text = gx at *
  generalize t.holes = n at *
  obtain ⟨R, hR⟩ : ∃ R, (if U.text.length ≤ 12000 then U.txt else ⟨#[]⟩) = R := ⟨_, rfl⟩
  rw [hR]
  have HRR := Lib.hid hR
  clear hR
  go_enter Try.func59, Try.ntmps59
  go_wp2_with fail
  refine (HH.out _ _ _ HQ.out).mono ?_
  rintro e w1 ⟨rfl, hb1⟩
  obtain ⟨c0, c1⟩ := box_cells ((hb1.block w.heap.size (by simp <;> omega)).trans HX1.out)
  obtain ⟨d0, d1⟩ := box_cells ((hb1.block (w.heap.size + 1) (by simp)).trans HX2.out)
  have hB1 := hbel.trans (hb1.mono hbel.size)
  have HQ3 := Lib.hid (Rep.keep (Keeps.below hb1) _ _ HQ.out)
  have HQ4 := Lib.hid (Rep.keep (Keeps.below hb1) _ _ HQ2.out)
  clear hb1 HQ HQ2 HX1 HX2
  have hS : ∀ w' : World, Below w1.heap.size w1 w' → w'.cell? ⟨w.heap.size, 0, none⟩ = some (.string ta) ∧ w'.cell? ⟨w.heap.size, 1, none⟩ = some (.slice so tl tc) ∧ w'.cell? ⟨w.heap.size + 1, 0, none⟩ = some (.string ga) ∧ w'.cell? ⟨w.heap.size + 1, 1, none⟩ = some (.slice go gl gc) ∧ Below w1.heap.size w1 w' :=
    fun w' h => ⟨(h.cell (lt_of_cell c0)).trans c0, (h.cell (lt_of_cell c1)).trans c1, (h.cell (lt_of_cell d0)).trans d0, (h.cell (lt_of_cell d1)).trans d1, h⟩
  have HS := Lib.hid hS
  clear hS
  obtain ⟨m, hm⟩ : ∃ m : Int, (n : Int) * ((gn : Int) - 1) = m := ⟨_, rfl⟩
  have hm1 : -24000 ≤ m ∧ m ≤ 288000000 := by
    have h1 : (n : Int) * ((gn : Int) - 1) ≤ (n : Int) * 12000 := Int.mul_le_mul_of_nonneg_left (by omega) (by omega)
    have h2 : (n : Int) * (-1) ≤ (n : Int) * ((gn : Int) - 1) := Int.mul_le_mul_of_nonneg_left (by omega) (by omega)
    omega
  obtain ⟨hm2, hm3⟩ := hm1
  rw [hm] at hlen
  rw [← e2] at hm
  have hw1 : IntKind.i64.wrap ((gx.size : Int) - 1) = (gx.size : Int) - 1 := IntWalk.i64_in _ (by omega)
  have hw2 : IntKind.i64.wrap ((n : Int) * ((gx.size : Int) - 1)) = m := by rw [hm]; exact IntWalk.i64_in _ (by omega)
  have hw3 : IntKind.i64.wrap ((tx.size : Int) + m) = (tx.size : Int) + m := IntWalk.i64_in _ (by omega)
  have hlen' : ((U.text.length : Nat) : Int) = (tx.size : Int) + m := by omega
  by_cases hU : U.text.length ≤ 12000
  · have hd : decide ((12000 : Int) < (tx.size : Int) + m) = false := decide_eq_false (by omega)
    have hR : R = U.txt := by rw [← HRR.out, if_pos hU]
    subst hR
    clear HRR hU
    clear hlen hlen' hm2 hm3 e1 e2 hm
    go_wp2_with fail
    go_region_held3 (fun w' => w'.cell? ⟨w.heap.size, 0, none⟩ = some (.string ta) ∧ w'.cell? ⟨w.heap.size, 1, none⟩ = some (.slice so tl tc) ∧ w'.cell? ⟨w.heap.size + 1, 0, none⟩ = some (.string ga) ∧ w'.cell? ⟨w.heap.size + 1, 1, none⟩ = some (.slice go gl gc) ∧ Below w1.heap.size w1 w') (first | exact HS.out _ (by assumption) | exact HS.out _ (Below.refl _ _).drew)
      (first
        | (go_at_call_of 82 ta; refine (callQ (w1 := w1) ?_ (HT.out _ _ (Rep.keep (Keeps.below (by first | assumption | exact (Below.refl _ _).drew)) _ _ HQ3.out))).mono ?_; (first | assumption | exact (Below.refl _ _).drew); rintro e w' ⟨rfl, hb'⟩)
        | (go_at_call_of 82 ga; refine (callQ (w1 := w1) ?_ (HT2.out _ _ (Rep.keep (Keeps.below (by first | assumption | exact (Below.refl _ _).drew)) _ _ HQ4.out))).mono ?_; (first | assumption | exact (Below.refl _ _).drew); rintro e w' ⟨rfl, hb'⟩))
    go_wp2_with fail
    refine (HP.out _ (Rep.keep (Keeps.below (by assumption)) _ _ HQ3.out) (Rep.keep (Keeps.below (by assumption)) _ _ HQ4.out) (fun b hb => Nat.lt_of_lt_of_le (Nat.lt_of_lt_of_le hb.2 hB1.size) (Below.size (w := w1) (by assumption))) (fun b hb => Nat.lt_of_lt_of_le (Nat.lt_of_lt_of_le hb.2 hB1.size) (Below.size (w := w1) (by assumption)))).mono ?_
    rintro e w5 ⟨a5, o5, l5, c5, rfl, hr5, hb5⟩
    have hB5 : Below w.heap.size w w5 := Below.trans hB1 (Below.mono (Below.trans (B := w1.heap.size) (by assumption) (hb5.mono (Below.size (w := w1) (by assumption)))) hB1.size)
    have HR5 := Lib.hid hr5
    clear hr5 hb5
    go_wp2_with fail
    refine (HX.out _ _ _ HR5.out).mono ?_
    rintro e w6 ⟨rfl, hb6⟩
    go_wp2
    go_ret
    exact ⟨rfl, hB5.trans (hb6.mono hB5.size)⟩
  · have hd : decide ((12000 : Int) < (tx.size : Int) + m) = true := decide_eq_true (by omega)
    have hR : R = ⟨#[]⟩ := by rw [← HRR.out, if_neg hU]
    subst hR
    clear HRR hU
    clear hlen hlen' hm2 hm3 e1 e2 hm HP HX
    go_wp2_with fail
    go_region_held3 (fun w' => w'.cell? ⟨w.heap.size, 0, none⟩ = some (.string ta) ∧ w'.cell? ⟨w.heap.size, 1, none⟩ = some (.slice so tl tc) ∧ w'.cell? ⟨w.heap.size + 1, 0, none⟩ = some (.string ga) ∧ w'.cell? ⟨w.heap.size + 1, 1, none⟩ = some (.slice go gl gc) ∧ Below w1.heap.size w1 w') (first | exact HS.out _ (by assumption) | exact HS.out _ (Below.refl _ _).drew)
      (first
        | (go_at_call_of 82 ta; refine (callQ (w1 := w1) ?_ (HT.out _ _ (Rep.keep (Keeps.below (by first | assumption | exact (Below.refl _ _).drew)) _ _ HQ3.out))).mono ?_; (first | assumption | exact (Below.refl _ _).drew); rintro e w' ⟨rfl, hb'⟩)
        | (go_at_call_of 82 ga; refine (callQ (w1 := w1) ?_ (HT2.out _ _ (Rep.keep (Keeps.below (by first | assumption | exact (Below.refl _ _).drew)) _ _ HQ4.out))).mono ?_; (first | assumption | exact (Below.refl _ _).drew); rintro e w' ⟨rfl, hb'⟩))
    go_wp2
    go_ret
    exact ⟨rfl, hB1.trans (Below.mono (B := w1.heap.size) (by assumption) hB1.size)⟩

set_option maxRecDepth 100000 in
set_option maxHeartbeats 3200000 in
theorem sTargetPut_any (s by_ : ByteArray) (w : World) (hs : s.size ≤ 1000000000) (hb : by_.size ≤ 1000000000) :
    Calls Try.prog 28 #[.string s, .string by_] w (StrR (putOf unkR s.data.toList by_.data.toList) w) := by
  have HN1 := Lib.hid (fun h => putOf_none1 (u := unkR) (s := s.data.toList) (b := by_.data.toList) h)
  have HN2 := Lib.hid (fun h => putOf_none2 (u := unkR) (s := s.data.toList) (b := by_.data.toList) h)
  have HN5 := Lib.hid (fun t g h1 h2 => putOf_some (u := unkR) (s := s.data.toList) (b := by_.data.toList) (t := t) (g := g) h1 h2)
  generalize putOf unkR s.data.toList by_.data.toList = res at *
  have HR1 := Lib.hid (fun W => l1Parse_any s W hs)
  have HR2 := Lib.hid (fun W => l1Parse_any by_ W hb)
  cases hp1 : parse s.data.toList with
  | none =>
    have hres := HN1.out hp1
    have HP1 := Lib.hid hp1
    subst hres
    clear hp1 HN1 HN2 HN5
    go_enter Try.func28, Try.ntmps28
    go_wp2_with fail
    refine (HR1.out _).mono ?_
    rintro e w1 ⟨a, o, l, c, ok, t, rfl, hb1, -, hok, -⟩
    rw [HP1.out] at hok
    have hok' : ok = false := hok
    subst hok'
    clear hok
    have hbw1 := hb1.alloc hb1.size (.cells #[.string a, .slice o l c] 46)
    go_wp2_with fail
    refine (HR2.out _).mono ?_
    rintro e w2 ⟨a2, o2, l2, c2, ok2, t2, rfl, hb2, -, -, -⟩
    have hbw2 := hbw1.trans (hb2.mono hbw1.size)
    go_wp2
    go_ret2
    exact ⟨rfl, hbw2.alloc hbw2.size _⟩
  | some t =>
    cases hp2 : parse by_.data.toList with
    | none =>
      have hres := HN2.out hp2
      have HP1 := Lib.hid hp1
      have HP2 := Lib.hid hp2
      subst hres
      clear hp1 hp2 HN1 HN2 HN5
      go_enter Try.func28, Try.ntmps28
      go_wp2_with fail
      refine (HR1.out _).mono ?_
      rintro e w1 ⟨a, o, l, c, ok, t', rfl, hb1, -, hok, -⟩
      rw [HP1.out] at hok
      have hok' : ok = true := hok
      subst hok'
      clear hok
      have hbw1 := hb1.alloc hb1.size (.cells #[.string a, .slice o l c] 46)
      go_wp2_with fail
      refine (HR2.out _).mono ?_
      rintro e w2 ⟨a2, o2, l2, c2, ok2, t2, rfl, hb2, -, hok, -⟩
      rw [HP2.out] at hok
      have hok' : ok2 = false := hok
      subst hok'
      clear hok
      have hbw2 := hbw1.trans (hb2.mono hbw1.size)
      go_wp2
      go_ret2
      exact ⟨rfl, hbw2.alloc hbw2.size _⟩
    | some g =>
      have HP1 := Lib.hid hp1
      have HP2 := Lib.hid hp2
      have hz1 := parse_sz hp1
      have hz2 := parse_sz hp2
      have hl1 := parse_text_le hp1
      have hl2 := parse_text_le hp2
      have HG1 := Lib.hid (parse_good hp1)
      have HG2 := Lib.hid (parse_good hp2)
      have HPG := Lib.hid (put_good HG2.out t HG1.out)
      have HA1 := Lib.hid (atomsLe_of (m := 1000000000) t (by omega) HG1.out)
      have HA2 := Lib.hid (atomsLe_of (m := 1000000000) g (by omega) HG2.out)
      have HT1 := Lib.hid (fun (D : Nat → Prop) v W hr => l6tType_any unkR true (fun _ s W h => l6tUnknown_any s W h) _ t true D v W (Nat.le_refl _) hr (by omega) HG1.out (fun _ => HA1.out))
      have HT2 := Lib.hid (fun (D : Nat → Prop) v W hr => l6tType_any unkR true (fun _ s W h => l6tUnknown_any s W h) _ g false D v W (Nat.le_refl _) hr (by omega) HG2.out (fun _ => HA2.out))
      have HTX := Lib.hid (fun A D ta ga so go tl tc gl gc W hr hr2 => l6tPutText_any t g A D ta ga so go tl tc gl gc W hr hr2 hl1 hl2 HG1.out HG2.out)
      have hres := HN5.out t g hp1 hp2
      have HRES := Lib.hid hres
      clear hp1 hp2 HN1 HN2 HN5 HA1 HA2 HG1 HG2 hres
      generalize ht1 : t.target unkR true true = t1 at HT1 HRES
      generalize ht2 : g.target unkR false true = t2 at HT2 HRES
      clear ht1 ht2
      go_enter Try.func28, Try.ntmps28
      go_wp2_with fail
      refine (HR1.out _).mono ?_
      rintro e w1 ⟨a, o, l, c, ok, t', rfl, hb1, hr1, hok, ht⟩
      rw [HP1.out] at hok
      have hok' : ok = true := hok
      subst hok'
      obtain rfl := ht _ HP1.out
      clear hok ht
      have hbw1 := hb1.alloc hb1.size (.cells #[.string a, .slice o l c] 46)
      have hs1 := hb1.size
      have HX1 := Lib.hid (heap_alloc_new w1 (.cells #[.string a, .slice o l c] 46))
      have HQ1 := Lib.hid (Rep.keep (Keeps.alloc _ w1 (.cells #[.string a, .slice o l c] 46)) _ _ (Rep.bound _ _ hr1))
      clear hr1 hb1
      go_wp2_with fail
      refine (HR2.out _).mono ?_
      rintro e w2 ⟨a2, o2, l2, c2, ok2, g', rfl, hb2, hr2, hok, ht⟩
      rw [HP2.out] at hok
      have hok' : ok2 = true := hok
      subst hok'
      obtain rfl := ht _ HP2.out
      clear hok ht
      have hs2 := hb2.size
      simp only [World.size_alloc] at hs2
      have hx1 := box_kept (.cells #[.string a2, .slice o2 l2 c2] 46) ((hb2.block w1.heap.size (by simp)).trans HX1.out)
      have hx2 := heap_alloc_new w2 (.cells #[.string a2, .slice o2 l2 c2] 46)
      have hbw2 := hbw1.trans (hb2.mono hbw1.size)
      have HB3 := Lib.hid (hbw2.alloc hbw2.size (.cells #[.string a2, .slice o2 l2 c2] 46))
      have HQ3 := Lib.hid (Rep.keep ((Keeps.below hb2).trans (Keeps.alloc _ w2 (.cells #[.string a2, .slice o2 l2 c2] 46))) _ _ HQ1.out)
      have HQ4 := Lib.hid (Rep.keep (Keeps.alloc _ w2 (.cells #[.string a2, .slice o2 l2 c2] 46)) _ _ (Rep.bound _ _ hr2))
      obtain ⟨c0, c1⟩ := box_cells hx1
      have HX3 := Lib.hid hx1
      have HX4 := Lib.hid hx2
      clear hx1 hx2 hb2 hr2 HQ1 HX1 hbw1 hbw2
      cases t1 with
      | false =>
        have hres : res = none := by rw [HRES.out]; rfl
        clear HRES
        subst hres
        go_wp2_with fail
        refine (HT1.out _ _ _ HQ3.out).mono ?_
        rintro e w3 ⟨rfl, hb3⟩
        go_wp2
        go_ret2
        exact ⟨rfl, HB3.out.trans (hb3.mono HB3.out.size)⟩
      | true =>
        go_wp2_with fail
        refine (HT1.out _ _ _ HQ3.out).mono ?_
        rintro e w3 ⟨rfl, hb3⟩
        have hx1 := (hb3.block w1.heap.size (by simp only [World.size_alloc]; omega)).trans HX3.out
        have hx2 := (hb3.block w2.heap.size (by simp)).trans HX4.out
        have hs3 := hb3.size
        simp only [World.size_alloc] at hs3
        clear c0 c1
        obtain ⟨c0, c1⟩ := box_cells hx1
        obtain ⟨d0, d1⟩ := box_cells hx2
        have HX5 := Lib.hid hx1
        have HX6 := Lib.hid hx2
        have HB4 := Lib.hid (HB3.out.trans (hb3.mono HB3.out.size))
        have HQ5 := Lib.hid (Rep.keep (Keeps.below hb3) _ _ HQ3.out)
        have HQ6 := Lib.hid (Rep.keep (Keeps.below hb3) _ _ HQ4.out)
        clear hb3 HQ3 HQ4 HX3 HX4 HB3 hx1 hx2
        cases t2 with
        | false =>
          have hres : res = none := by rw [HRES.out]; rfl
          clear HRES
          subst hres
          go_wp2_with fail
          refine (HT2.out _ _ _ HQ6.out).mono ?_
          rintro e w4 ⟨rfl, hb4⟩
          go_wp2
          go_ret2
          exact ⟨rfl, HB4.out.trans (hb4.mono HB4.out.size)⟩
        | true =>
          rw [Bool.true_and, if_pos rfl] at HRES
          go_wp2_with fail
          refine (HT2.out _ _ _ HQ6.out).mono ?_
          rintro e w4 ⟨rfl, hb4⟩
          have hs4 := hb4.size
          have hx1 := (hb4.block w1.heap.size (by omega)).trans HX5.out
          have hx2 := (hb4.block w2.heap.size (by omega)).trans HX6.out
          clear c0 c1 d0 d1
          obtain ⟨c0, c1⟩ := box_cells hx1
          obtain ⟨d0, d1⟩ := box_cells hx2
          have HB5 := Lib.hid (HB4.out.trans (hb4.mono HB4.out.size))
          have HQ7 := Lib.hid (Rep.keep (Keeps.below hb4) _ _ HQ5.out)
          have HQ8 := Lib.hid (Rep.keep (Keeps.below hb4) _ _ HQ6.out)
          clear hb4 HQ5 HQ6 HX5 HX6 HB4 hx1 hx2 HR1 HR2 HP1 HP2 HT1 HT2
          have HPI := Lib.hid (parse_isSome HPG.out)
          have HUD : Hid ((t'.put g').txt.data.toList = (t'.put g').text) := bts_data _
          generalize t'.put g' = U at *
          by_cases hU : U.text.length ≤ 12000
          · have hUx : U.txt.size ≤ 12000 := by rw [Tree.txt, bts_size]; exact hU
            have hF := fun W => sFormValid_any U.txt W (by omega)
            rw [HUD.out, HPI.out] at hF
            rw [if_pos hU] at HTX
            cases hf : U.fits with
            | false =>
              rw [hf] at hF HRES
              have HF := Lib.hid hF
              have hres : res = none := by rw [HRES.out]; rfl
              clear HRES hF hf
              subst hres
              go_wp2_with fail
              refine (HTX.out _ _ _ _ _ _ _ _ _ _ _ HQ7.out HQ8.out).mono ?_
              rintro e w5 ⟨rfl, hb5⟩
              have hB5 := HB5.out.trans (hb5.mono HB5.out.size)
              go_wp2_with fail
              refine (HF.out _).mono ?_
              rintro e w6 ⟨rfl, hb6⟩
              go_wp2
              go_ret2
              exact ⟨rfl, hB5.trans (hb6.mono hB5.size)⟩
            | true =>
              rw [hf] at hF HRES
              have HF := Lib.hid hF
              have hres : res = some U.txt := by rw [HRES.out]; rfl
              clear HRES hF hf
              subst hres
              go_wp2_with fail
              refine (HTX.out _ _ _ _ _ _ _ _ _ _ _ HQ7.out HQ8.out).mono ?_
              rintro e w5 ⟨rfl, hb5⟩
              have hB5 := HB5.out.trans (hb5.mono HB5.out.size)
              go_wp2_with fail
              refine (HF.out _).mono ?_
              rintro e w6 ⟨rfl, hb6⟩
              go_wp2
              go_ret2
              exact ⟨rfl, hB5.trans (hb6.mono hB5.size)⟩
          · have hF := fun W => sFormValid_any ⟨#[]⟩ W (by decide)
            rw [show (parse (ByteArray.mk #[]).data.toList).isSome = false from rfl] at hF
            have HF := Lib.hid hF
            rw [if_neg hU] at HTX
            have hf : U.fits = false := by unfold Tree.fits; rw [decide_eq_false hU, Bool.and_false]
            have hres : res = none := by rw [HRES.out, hf]; rfl
            clear HRES hF hf hU
            subst hres
            go_wp2_with fail
            refine (HTX.out _ _ _ _ _ _ _ _ _ _ _ HQ7.out HQ8.out).mono ?_
            rintro e w5 ⟨rfl, hb5⟩
            have hB5 := HB5.out.trans (hb5.mono HB5.out.size)
            go_wp2_with fail
            refine (HF.out _).mono ?_
            rintro e w6 ⟨rfl, hb6⟩
            go_wp2
            go_ret2
            exact ⟨rfl, hB5.trans (hb6.mono hB5.size)⟩
end Go.Proofs.Ytcobcmgmleblkaa
