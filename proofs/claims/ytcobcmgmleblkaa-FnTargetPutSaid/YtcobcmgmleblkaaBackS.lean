/- TargetBack of the reference. -/
import Derived.Test.YtcobcmgmleblkaaBackR
import Derived.Test.YtcobcmgmleblkaaTgtA
namespace Go.Proofs.Ytcobcmgmleblkaa
open Go.RowKit

theorem backOf_none {s : List UInt8} (h : parse s = none) : backOf s = none := by unfold backOf; rw [h]
theorem backOf_some {s : List UInt8} {t : Tree} (h : parse s = some t) : backOf s = backI t := by unfold backOf; rw [h]
theorem txt_map {o : Option Tree} (h : o = none) : o.map Tree.txt = none := by rw [h]; rfl

set_option maxRecDepth 100000 in
set_option maxHeartbeats 1600000 in
theorem sTargetBack_any (s : ByteArray) (w : World) (hs : s.size ≤ 100000000) : Calls Try.prog 15 #[.string s] w (StrR ((backOf s.data.toList).map Tree.txt) w) := by
  have HR := Lib.hid (fun W => l1Parse_any s W (by omega))
  cases hp : parse s.data.toList with
  | none =>
    have HN : Hid ((backOf s.data.toList).map Tree.txt = none) := txt_map (backOf_none hp)
    have HP := Lib.hid hp
    clear hp
    go_enter Try.func15, Try.ntmps15
    go_wp2_with fail
    refine (HR.out _).mono ?_
    rintro e w1 ⟨a, o, l, c, ok, t, rfl, hb1, -, hok, -⟩
    rw [HP.out] at hok
    have hok' : ok = false := hok
    subst hok'
    clear hok
    go_wp2
    exact bodyPost_ret (v := .tuple #[.string ⟨#[]⟩, .bool false]) (by simp [results, Try.results15, go_sem]) rfl ⟨by rw [HN.out]; rfl, hb1.alloc hb1.size _⟩
  | some t0 =>
    have hg := parse_good hp
    have hsz := parse_sz hp
    have hbo := (backOf_some hp).trans (back_ref hp)
    have HP := Lib.hid hp
    have HT := Lib.hid (fun (D : Nat → Prop) v W hr => l6tType_any unkI false (fun h => by cases h) _ t0 false D v W (Nat.le_refl _) hr (by omega) hg (fun h => by cases h))
    cases htv : t0.target unkI false false with
    | false =>
      have HN : Hid ((backOf s.data.toList).map Tree.txt = none) := txt_map (by rw [hbo, htv]; rfl)
      rw [htv] at HT
      clear hp hbo htv hg
      go_enter Try.func15, Try.ntmps15
      go_wp2_with fail
      refine (HR.out _).mono ?_
      rintro e w1 ⟨a, o, l, c, ok, t, rfl, hb1, hr, hok, ht⟩
      rw [HP.out] at hok
      have hok' : ok = true := hok
      subst hok'
      obtain rfl := ht _ HP.out
      have hr2 := Rep.keep (Keeps.alloc _ w1 (.cells #[.string a, .slice o l c] 46)) _ _ hr
      have hB := hb1.alloc hb1.size (.cells #[.string a, .slice o l c] 46)
      clear hok ht hr
      go_wp2_with fail
      refine (HT.out _ _ _ hr2).mono ?_
      rintro e w2 ⟨rfl, hb2⟩
      have hB2 := hB.trans (hb2.mono hB.size)
      go_wp2
      exact bodyPost_ret (v := .tuple #[.string ⟨#[]⟩, .bool false]) (by simp [results, Try.results15, go_sem]) rfl ⟨by rw [HN.out]; rfl, hB2⟩
    | true =>
      have HBK := Lib.hid (fun (D : Nat → Prop) v W hr => l6tBack_any _ t0 false D v W (Nat.le_refl _) hr hg htv hsz)
      have hbl : (bts t0.bck).size ≤ 240000 := by rw [bts_size]; have := bck_length _ t0 (Nat.le_refl _); omega
      have HV := Lib.hid (fun W => sTypeValid_any (bts t0.bck) W (by omega))
      rw [bts_data] at HV
      rw [htv, Bool.true_and] at hbo
      rw [htv] at HT
      cases hq : ptype t0.bck with
      | none =>
        have HN : Hid ((backOf s.data.toList).map Tree.txt = none) := txt_map (by rw [hbo, hq]; rfl)
        rw [hq] at HV
        change Hid (∀ W, Calls _ _ _ W fun e w' => e = .returned (.bool false) ∧ _) at HV
        generalize bts t0.bck = X at *
        clear hp hbo htv hg hq
        go_enter Try.func15, Try.ntmps15
        go_wp2_with fail
        refine (HR.out _).mono ?_
        rintro e w1 ⟨a, o, l, c, ok, t, rfl, hb1, hr, hok, ht⟩
        rw [HP.out] at hok
        have hok' : ok = true := hok
        subst hok'
        obtain rfl := ht _ HP.out
        have HQ := Lib.hid (Rep.keep (Keeps.alloc _ w1 (.cells #[.string a, .slice o l c] 46)) _ _ hr)
        have hB := hb1.alloc hb1.size (.cells #[.string a, .slice o l c] 46)
        have HBX := Lib.hid (heap_alloc_new w1 (.cells #[.string a, .slice o l c] 46))
        clear hok ht hr
        go_wp2_with fail
        refine (HT.out _ _ _ HQ.out).mono ?_
        rintro e w2 ⟨rfl, hb2⟩
        have hB2 := hB.trans (hb2.mono hB.size)
        obtain ⟨x2, y2⟩ := box_cells ((hb2.block w1.heap.size (by simp)).trans HBX.out)
        have HQ2 := Lib.hid (Rep.keep (Keeps.below hb2) _ _ HQ.out)
        go_wp2_with fail
        refine (HBK.out _ _ _ HQ2.out).mono ?_
        rintro e w3 ⟨rfl, hb3⟩
        have hB3 := hB2.trans (hb3.mono hB2.size)
        go_wp2_with fail
        refine (HV.out _).mono ?_
        rintro e w4 ⟨rfl, hb4⟩
        have hB4 := hB3.trans (hb4.mono hB3.size)
        go_wp2
        exact bodyPost_ret (v := .tuple #[.string ⟨#[]⟩, .bool false]) (by simp [results, Try.results15, go_sem]) rfl ⟨by rw [HN.out]; rfl, hB4⟩
      | some u =>
        have hut := (ptype_facts hq).2.2.2.2
        have hut2 : bts t0.bck = u.txt := by rw [hut]; rfl
        have HS := Lib.hid (fun W => l6tSource_any (bts t0.bck) u W (by omega) (by rw [bts_data]; exact hq))
        rw [hq] at HV
        change Hid (∀ W, Calls _ _ _ W fun e w' => e = .returned (.bool true) ∧ _) at HV
        by_cases hts : u.tgt.text = s.data.toList
        · have HN : Hid ((backOf s.data.toList).map Tree.txt = some (bts t0.bck)) := by show _ = _; rw [hbo, hq]; simp [hts, hut2]
          have e1 : (u.tgt.txt.toList == s.toList) = true := by rw [Lib.toList_data, Lib.toList_data, Tree.txt, bts_data, hts]; simp
          generalize bts t0.bck = X at *
          clear hp hbo htv hg hq hut hut2 hts
          go_enter Try.func15, Try.ntmps15
          go_wp2_with fail
          refine (HR.out _).mono ?_
          rintro e w1 ⟨a, o, l, c, ok, t, rfl, hb1, hr, hok, ht⟩
          rw [HP.out] at hok
          have hok' : ok = true := hok
          subst hok'
          obtain rfl := ht _ HP.out
          have HQ := Lib.hid (Rep.keep (Keeps.alloc _ w1 (.cells #[.string a, .slice o l c] 46)) _ _ hr)
          have hB := hb1.alloc hb1.size (.cells #[.string a, .slice o l c] 46)
          have HBX := Lib.hid (heap_alloc_new w1 (.cells #[.string a, .slice o l c] 46))
          clear hok ht hr
          go_wp2_with fail
          refine (HT.out _ _ _ HQ.out).mono ?_
          rintro e w2 ⟨rfl, hb2⟩
          have hB2 := hB.trans (hb2.mono hB.size)
          obtain ⟨x2, y2⟩ := box_cells ((hb2.block w1.heap.size (by simp)).trans HBX.out)
          have HQ2 := Lib.hid (Rep.keep (Keeps.below hb2) _ _ HQ.out)
          go_wp2_with fail
          refine (HBK.out _ _ _ HQ2.out).mono ?_
          rintro e w3 ⟨rfl, hb3⟩
          have hB3 := hB2.trans (hb3.mono hB2.size)
          go_wp2_with fail
          refine (HV.out _).mono ?_
          rintro e w4 ⟨rfl, hb4⟩
          have hB4 := hB3.trans (hb4.mono hB3.size)
          go_wp2_with fail
          refine (HS.out _).mono ?_
          rintro e w5 ⟨rfl, hb5⟩
          have hB5 := hB4.trans (hb5.mono hB4.size)
          go_wp2
          exact bodyPost_ret (v := .tuple #[.string X, .bool true]) (by simp [results, Try.results15, go_sem]) rfl ⟨by rw [HN.out]; rfl, hB5⟩
        · have HN : Hid ((backOf s.data.toList).map Tree.txt = none) := txt_map (by rw [hbo, hq]; simp [hts])
          have e1 : (u.tgt.txt.toList == s.toList) = false := by rw [Lib.toList_data, Lib.toList_data, Tree.txt, bts_data]; simpa using hts
          generalize bts t0.bck = X at *
          clear hp hbo htv hg hq hut hut2 hts
          go_enter Try.func15, Try.ntmps15
          go_wp2_with fail
          refine (HR.out _).mono ?_
          rintro e w1 ⟨a, o, l, c, ok, t, rfl, hb1, hr, hok, ht⟩
          rw [HP.out] at hok
          have hok' : ok = true := hok
          subst hok'
          obtain rfl := ht _ HP.out
          have HQ := Lib.hid (Rep.keep (Keeps.alloc _ w1 (.cells #[.string a, .slice o l c] 46)) _ _ hr)
          have hB := hb1.alloc hb1.size (.cells #[.string a, .slice o l c] 46)
          have HBX := Lib.hid (heap_alloc_new w1 (.cells #[.string a, .slice o l c] 46))
          clear hok ht hr
          go_wp2_with fail
          refine (HT.out _ _ _ HQ.out).mono ?_
          rintro e w2 ⟨rfl, hb2⟩
          have hB2 := hB.trans (hb2.mono hB.size)
          obtain ⟨x2, y2⟩ := box_cells ((hb2.block w1.heap.size (by simp)).trans HBX.out)
          have HQ2 := Lib.hid (Rep.keep (Keeps.below hb2) _ _ HQ.out)
          go_wp2_with fail
          refine (HBK.out _ _ _ HQ2.out).mono ?_
          rintro e w3 ⟨rfl, hb3⟩
          have hB3 := hB2.trans (hb3.mono hB2.size)
          go_wp2_with fail
          refine (HV.out _).mono ?_
          rintro e w4 ⟨rfl, hb4⟩
          have hB4 := hB3.trans (hb4.mono hB3.size)
          go_wp2_with fail
          refine (HS.out _).mono ?_
          rintro e w5 ⟨rfl, hb5⟩
          have hB5 := hB4.trans (hb5.mono hB4.size)
          go_wp2
          exact bodyPost_ret (v := .tuple #[.string ⟨#[]⟩, .bool false]) (by simp [results, Try.results15, go_sem]) rfl ⟨by rw [HN.out]; rfl, hB5⟩
end Go.Proofs.Ytcobcmgmleblkaa
