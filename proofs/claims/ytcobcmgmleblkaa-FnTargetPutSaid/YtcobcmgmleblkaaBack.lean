/- TargetBack of the program. -/
import Derived.Test.YtcobcmgmleblkaaSource
import Derived.Test.YtcobcmgmleblkaaBackS
import Derived.Test.YtcobcmgmleblkaaTMake
namespace Go.Proofs.Ytcobcmgmleblkaa
open Go.RowKit

theorem cut3_sum {t : Tree} {c : UInt8} {x y : Tree} (h : t.cut3 = some (c, x, y)) : x.sz + y.sz + 1 ≤ t.sz := by
  unfold Tree.cut3 at h
  split at h
  · split at h
    · cases h; simp only [Tree.sz, Tree.szL]; omega
    · cases h
  · split at h
    · rename_i x' k hk
      split at h
      · rename_i y' hy
        cases h
        unfold code4 at hk
        split at hk
        · rename_i a b x k hc
          cases hk
          have h3 := code_sz k _ (code3_mem hy)
          unfold Tree.code at hc
          split at hc
          · split at hc
            · cases hc; simp only [Tree.sz, Tree.szL]; omega
            · cases hc
          · cases hc
        · cases hk
      · cases h
    · cases h
theorem src_sz (n : Nat) : ∀ t : Tree, t.sz ≤ n → t.src.sz ≤ 3 * t.sz := by
  induction n with
  | zero => intro t h; cases t; simp [Tree.sz] at h
  | succ n ih =>
    intro t hn
    cases h : t.cut3 with
    | none =>
      rw [(src_none h).1]
      cases t
      split <;> simp only [Tree.sz, Tree.szL] <;> omega
    | some r =>
      obtain ⟨c, x, y⟩ := r
      have hs := cut3_sz h
      have hx := ih x (by omega)
      have hy := ih y (by omega)
      have hxy := cut3_sum h
      rw [(src_some h).1]
      simp only [Tree.sz, Tree.szL]
      omega

set_option maxRecDepth 100000 in
set_option maxHeartbeats 3200000 in
theorem targetBack_any (s : ByteArray) (w : World) (hs : s.size ≤ 100000000) : Calls Try.prog 16 #[.string s] w (StrR ((backOf s.data.toList).map Tree.txt) w) := by
  have HR := Lib.hid (fun W => read_any s W (by omega))
  cases hp : parse s.data.toList with
  | none =>
    have HN : Hid ((backOf s.data.toList).map Tree.txt = none) := txt_map (backOf_none hp)
    have HP := Lib.hid hp
    clear hp
    go_enter Try.func16, Try.ntmps16
    go_wp2_with fail
    refine (HR.out _).mono ?_
    rintro e w1 ⟨a, o, l, c, ok, t, rfl, hb1, -, hok, -⟩
    rw [HP.out] at hok
    have hok' : ok = false := hok
    subst hok'
    clear hok
    go_wp2
    exact bodyPost_ret (v := .tuple #[.string ⟨#[]⟩, .bool false]) (by simp [results, Try.results16, go_sem]) rfl ⟨by rw [HN.out]; rfl, (by first | exact hb1 | exact hb1.alloc hb1.size _)⟩
  | some t0 =>
    have hg := parse_good hp
    have hsz := parse_sz hp
    have hssz := src_sz _ t0 (Nat.le_refl _)
    have hbo := backOf_some hp
    have HP := Lib.hid hp
    have HS := Lib.hid (fun (D : Nat → Prop) v W hr => source_any _ t0 D v W (Nat.le_refl _) hr (by omega))
    have HT := Lib.hid (fun (D : Nat → Prop) v W hr => typed_any t0.src D v W hr (by omega))
    have HE := Lib.hid (fun (u : Tree) (D E : Nat → Prop) v v' W hr hr' hz => same_any _ u t0 D E v v' W (Nat.le_refl _) hr hr' hz)
    cases hsb : t0.srcB with
    | false =>
      have HN : Hid ((backOf s.data.toList).map Tree.txt = none) := txt_map (by rw [hbo]; unfold backI; rw [hsb]; rfl)
      unfold SrcR at HS
      rw [hsb] at HS
      clear hp hbo hg hsb
      go_enter Try.func16, Try.ntmps16
      go_wp2_with fail
      refine (HR.out _).mono ?_
      rintro e w1 ⟨a, o, l, c, ok, t, rfl, hb1, hr, hok, ht⟩
      rw [HP.out] at hok
      have hok' : ok = true := hok
      subst hok'
      obtain rfl := ht _ HP.out
      have HQ := Lib.hid (Rep.keep (Keeps.alloc _ w1 (.cells #[.string a, .slice o l c] 38)) _ _ hr)
      have hB := hb1.alloc hb1.size (.cells #[.string a, .slice o l c] 38)
      clear hok ht hr
      go_wp2_with fail
      refine (HS.out _ _ _ HQ.out).mono ?_
      rintro e w2 ⟨a2, o2, l2, c2, rfl, hr2, hb2⟩
      have hB2 := hB.trans (hb2.mono hB.size)
      have hB3 := hB2.alloc hB2.size (.cells #[.string a2, .slice o2 l2 c2] 38)
      go_wp2
      first | go_quiet (fail) | go_region
      all_goals
        go_wp2
        exact bodyPost_ret (v := .tuple #[.string ⟨#[]⟩, .bool false]) (by simp [results, Try.results16, go_sem]) rfl ⟨by rw [HN.out]; rfl, (by first | exact hB3 | exact hB3.drew | exact hB3.drewN _)⟩
    | true =>
      have hgs := src_good _ t0 (Nat.le_refl _) hg hsb
      unfold SrcR at HS
      rw [hsb] at HS
      cases hty : t0.src.typed with
      | false =>
        have HN : Hid ((backOf s.data.toList).map Tree.txt = none) := txt_map (by rw [hbo]; unfold backI; rw [hsb, hty]; rfl)
        rw [hty] at HT
        clear hp hbo hg hsb hty hgs
        go_enter Try.func16, Try.ntmps16
        go_wp2_with fail
        refine (HR.out _).mono ?_
        rintro e w1 ⟨a, o, l, c, ok, t, rfl, hb1, hr, hok, ht⟩
        rw [HP.out] at hok
        have hok' : ok = true := hok
        subst hok'
        obtain rfl := ht _ HP.out
        have HQ := Lib.hid (Rep.keep (Keeps.alloc _ w1 (.cells #[.string a, .slice o l c] 38)) _ _ hr)
        have hB := hb1.alloc hb1.size (.cells #[.string a, .slice o l c] 38)
        have HBX := Lib.hid (heap_alloc_new w1 (.cells #[.string a, .slice o l c] 38))
        clear hok ht hr
        go_wp2_with fail
        refine (HS.out _ _ _ HQ.out).mono ?_
        rintro e w2 ⟨a2, o2, l2, c2, rfl, hr2, hb2⟩
        have hB2 := hB.trans (hb2.mono hB.size)
        have hB3 := hB2.alloc hB2.size (.cells #[.string a2, .slice o2 l2 c2] 38)
        obtain ⟨z1, z2⟩ := two_new w2 (.string a2) (.slice o2 l2 c2) 38
        obtain ⟨y1, y2⟩ := box_cells (box_kept (.cells #[.string a2, .slice o2 l2 c2] 38) ((hb2.block w1.heap.size (by simp)).trans HBX.out))
        have HQ1 := Lib.hid (Rep.keep ((Keeps.below hb2).trans (Keeps.alloc _ _ (.cells #[.string a2, .slice o2 l2 c2] 38))) _ _ HQ.out)
        have HQ2 := Lib.hid (Rep.keep (Keeps.alloc _ _ (.cells #[.string a2, .slice o2 l2 c2] 38)) _ _ hr2)
        clear hr2 hb2 hb1
        go_wp2
        go_region_with (go_at_call 41; refine (callQ (w1 := (w2.alloc (.cells #[.string a2, .slice o2 l2 c2] 38))) ?_ (HT.out _ _ _ (Rep.keep (Keeps.below (by first | assumption | exact (Below.refl _ _).drew)) _ _ HQ2.out))).mono ?_; (first | assumption | exact (Below.refl _ _).drew); rintro e w' ⟨rfl, hb'⟩; have g1 := (hb'.cell (lt_of_cell z1)).trans z1; have g2 := (hb'.cell (lt_of_cell z2)).trans z2; have g3 := (hb'.cell (lt_of_cell y1)).trans y1; have g4 := (hb'.cell (lt_of_cell y2)).trans y2)
        all_goals
          have hB4 := hB3.trans (hb'.mono hB3.size)
          go_wp2
          exact bodyPost_ret (v := .tuple #[.string ⟨#[]⟩, .bool false]) (by simp [results, Try.results16, go_sem]) rfl ⟨by rw [HN.out]; rfl, (by first | exact hB4 | exact hB4.drew)⟩
      | true =>
        rw [hty] at HT
        have hit : t0.src.isType = true ∧ t0.src.size ≤ 16 := by unfold Tree.typed at hty; simpa using hty
        obtain ⟨hln, -⟩ := type_small _ t0.src (Nat.le_refl _) hgs hit.1
        have HG := Lib.hid (fun (D : Nat → Prop) v W hr => target_any _ t0.src D v W (Nat.le_refl _) hr hit.1 (by omega))
        have htz := (tgt_facts _ t0.src (Nat.le_refl _) hgs hit.1).2.2
        have HX := Lib.hid (fun (D : Nat → Prop) v W hr => text_any t0.src D v W hr (by omega) (by omega))
        rw [show bts t0.src.text = t0.src.txt from rfl] at HX
        have htz' : t0.src.tgt.sz ≤ 1000000000 := by omega
        cases heq : t0.src.tgt.eqB t0 with
        | false =>
          have HN : Hid ((backOf s.data.toList).map Tree.txt = none) := txt_map (by rw [hbo]; unfold backI; rw [hsb, hty, heq]; rfl)
          replace HE := Lib.hid (HE.out t0.src.tgt)
          rw [heq] at HE
          clear hp hbo hg hsb hty hgs hit hln htz heq HX
          go_enter Try.func16, Try.ntmps16
          go_wp2_with fail
          refine (HR.out _).mono ?_
          rintro e w1 ⟨a, o, l, c, ok, t, rfl, hb1, hr, hok, ht⟩
          rw [HP.out] at hok
          have hok' : ok = true := hok
          subst hok'
          obtain rfl := ht _ HP.out
          have HQ := Lib.hid (Rep.keep (Keeps.alloc _ w1 (.cells #[.string a, .slice o l c] 38)) _ _ hr)
          have hB := hb1.alloc hb1.size (.cells #[.string a, .slice o l c] 38)
          have HBX := Lib.hid (heap_alloc_new w1 (.cells #[.string a, .slice o l c] 38))
          clear hok ht hr
          go_wp2_with fail
          refine (HS.out _ _ _ HQ.out).mono ?_
          rintro e w2 ⟨a2, o2, l2, c2, rfl, hr2, hb2⟩
          have hB2 := hB.trans (hb2.mono hB.size)
          have hB3 := hB2.alloc hB2.size (.cells #[.string a2, .slice o2 l2 c2] 38)
          obtain ⟨z1, z2⟩ := two_new w2 (.string a2) (.slice o2 l2 c2) 38
          obtain ⟨y1, y2⟩ := box_cells (box_kept (.cells #[.string a2, .slice o2 l2 c2] 38) ((hb2.block w1.heap.size (by simp)).trans HBX.out))
          have HQ1 := Lib.hid (Rep.keep ((Keeps.below hb2).trans (Keeps.alloc _ _ (.cells #[.string a2, .slice o2 l2 c2] 38))) _ _ HQ.out)
          have HQ2 := Lib.hid (Rep.keep (Keeps.alloc _ _ (.cells #[.string a2, .slice o2 l2 c2] 38)) _ _ hr2)
          clear hr2 hb2 hb1
          go_wp2
          go_region_with (first
            | (go_at_call 41; refine (callQ (w1 := (w2.alloc (.cells #[.string a2, .slice o2 l2 c2] 38))) ?_ (HT.out _ _ _ (Rep.keep (Keeps.below (by first | assumption | exact (Below.refl _ _).drew)) _ _ HQ2.out))).mono ?_; (first | assumption | exact (Below.refl _ _).drew); rintro e w' ⟨rfl, hb'⟩; have g1 := (hb'.cell (lt_of_cell z1)).trans z1; have g2 := (hb'.cell (lt_of_cell z2)).trans z2; have g3 := (hb'.cell (lt_of_cell y1)).trans y1; have g4 := (hb'.cell (lt_of_cell y2)).trans y2)
            | (go_at_call 32; refine (HG.out _ _ _ (Rep.keep (Keeps.below (by first | assumption | exact (Below.refl _ _).drew)) _ _ HQ2.out)).mono ?_; rintro e w' ⟨a5, o5, l5, c5, rfl, hr5, hb5⟩; have hb' := (show Below (w2.alloc (.cells #[.string a2, .slice o2 l2 c2] 38)).heap.size (w2.alloc (.cells #[.string a2, .slice o2 l2 c2] 38)) _ from (by first | assumption | exact (Below.refl _ _).drew)).trans (hb5.mono (show (w2.alloc (.cells #[.string a2, .slice o2 l2 c2] 38)).heap.size ≤ _ from Below.size (by first | assumption | exact (Below.refl _ _).drew))); have g1 := (hb'.cell (lt_of_cell z1)).trans z1; have g2 := (hb'.cell (lt_of_cell z2)).trans z2; have g3 := (hb'.cell (lt_of_cell y1)).trans y1; have g4 := (hb'.cell (lt_of_cell y2)).trans y2)
            | (go_at_call 42; refine (callQ (w1 := (w2.alloc (.cells #[.string a2, .slice o2 l2 c2] 38))) ?_ (HE.out _ _ _ _ _ hr5 (Rep.keep (Keeps.below (by first | assumption | exact (Below.refl _ _).drew)) _ _ HQ1.out) htz')).mono ?_; (first | assumption | exact (Below.refl _ _).drew); rintro e w' ⟨rfl, hb'⟩; have g1 := (hb'.cell (lt_of_cell z1)).trans z1; have g2 := (hb'.cell (lt_of_cell z2)).trans z2; have g3 := (hb'.cell (lt_of_cell y1)).trans y1; have g4 := (hb'.cell (lt_of_cell y2)).trans y2))
          all_goals
            have hB4 := hB3.trans (hb'.mono hB3.size)
            go_wp2
            exact bodyPost_ret (v := .tuple #[.string ⟨#[]⟩, .bool false]) (by simp [results, Try.results16, go_sem]) rfl ⟨by rw [HN.out]; rfl, (by first | exact hB4 | exact hB4.drew)⟩
        | true =>
          have HN : Hid ((backOf s.data.toList).map Tree.txt = some t0.src.txt) := by show _ = _; rw [hbo]; unfold backI; rw [hsb, hty, heq]; rfl
          replace HE := Lib.hid (HE.out t0.src.tgt)
          rw [heq] at HE
          clear hp hbo hg hsb hty hgs hit hln htz heq
          go_enter Try.func16, Try.ntmps16
          go_wp2_with fail
          refine (HR.out _).mono ?_
          rintro e w1 ⟨a, o, l, c, ok, t, rfl, hb1, hr, hok, ht⟩
          rw [HP.out] at hok
          have hok' : ok = true := hok
          subst hok'
          obtain rfl := ht _ HP.out
          have HQ := Lib.hid (Rep.keep (Keeps.alloc _ w1 (.cells #[.string a, .slice o l c] 38)) _ _ hr)
          have hB := hb1.alloc hb1.size (.cells #[.string a, .slice o l c] 38)
          have HBX := Lib.hid (heap_alloc_new w1 (.cells #[.string a, .slice o l c] 38))
          clear hok ht hr
          go_wp2_with fail
          refine (HS.out _ _ _ HQ.out).mono ?_
          rintro e w2 ⟨a2, o2, l2, c2, rfl, hr2, hb2⟩
          have hB2 := hB.trans (hb2.mono hB.size)
          have hB3 := hB2.alloc hB2.size (.cells #[.string a2, .slice o2 l2 c2] 38)
          obtain ⟨z1, z2⟩ := two_new w2 (.string a2) (.slice o2 l2 c2) 38
          obtain ⟨y1, y2⟩ := box_cells (box_kept (.cells #[.string a2, .slice o2 l2 c2] 38) ((hb2.block w1.heap.size (by simp)).trans HBX.out))
          have HQ1 := Lib.hid (Rep.keep ((Keeps.below hb2).trans (Keeps.alloc _ _ (.cells #[.string a2, .slice o2 l2 c2] 38))) _ _ HQ.out)
          have HQ2 := Lib.hid (Rep.keep (Keeps.alloc _ _ (.cells #[.string a2, .slice o2 l2 c2] 38)) _ _ hr2)
          clear hr2 hb2 hb1
          go_wp2
          go_region_with (first
            | (go_at_call 41; refine (callQ (w1 := (w2.alloc (.cells #[.string a2, .slice o2 l2 c2] 38))) ?_ (HT.out _ _ _ (Rep.keep (Keeps.below (by first | assumption | exact (Below.refl _ _).drew)) _ _ HQ2.out))).mono ?_; (first | assumption | exact (Below.refl _ _).drew); rintro e w' ⟨rfl, hb'⟩; have g1 := (hb'.cell (lt_of_cell z1)).trans z1; have g2 := (hb'.cell (lt_of_cell z2)).trans z2; have g3 := (hb'.cell (lt_of_cell y1)).trans y1; have g4 := (hb'.cell (lt_of_cell y2)).trans y2)
            | (go_at_call 32; refine (HG.out _ _ _ (Rep.keep (Keeps.below (by first | assumption | exact (Below.refl _ _).drew)) _ _ HQ2.out)).mono ?_; rintro e w' ⟨a5, o5, l5, c5, rfl, hr5, hb5⟩; have hb' := (show Below (w2.alloc (.cells #[.string a2, .slice o2 l2 c2] 38)).heap.size (w2.alloc (.cells #[.string a2, .slice o2 l2 c2] 38)) _ from (by first | assumption | exact (Below.refl _ _).drew)).trans (hb5.mono (show (w2.alloc (.cells #[.string a2, .slice o2 l2 c2] 38)).heap.size ≤ _ from Below.size (by first | assumption | exact (Below.refl _ _).drew))); have g1 := (hb'.cell (lt_of_cell z1)).trans z1; have g2 := (hb'.cell (lt_of_cell z2)).trans z2; have g3 := (hb'.cell (lt_of_cell y1)).trans y1; have g4 := (hb'.cell (lt_of_cell y2)).trans y2)
            | (go_at_call 42; refine (callQ (w1 := (w2.alloc (.cells #[.string a2, .slice o2 l2 c2] 38))) ?_ (HE.out _ _ _ _ _ hr5 (Rep.keep (Keeps.below (by first | assumption | exact (Below.refl _ _).drew)) _ _ HQ1.out) htz')).mono ?_; (first | assumption | exact (Below.refl _ _).drew); rintro e w' ⟨rfl, hb'⟩; have g1 := (hb'.cell (lt_of_cell z1)).trans z1; have g2 := (hb'.cell (lt_of_cell z2)).trans z2; have g3 := (hb'.cell (lt_of_cell y1)).trans y1; have g4 := (hb'.cell (lt_of_cell y2)).trans y2))
          all_goals
            have hB4 := hB3.trans (hb'.mono hB3.size)
            go_wp2_with fail
            refine (HX.out _ _ _ (Rep.keep (Keeps.below hb') _ _ HQ2.out)).mono ?_
            rintro e w5 ⟨rfl, hb5⟩
            have hB5 := hB4.trans (hb5.mono hB4.size)
            go_wp2
            exact bodyPost_ret (v := .tuple #[.string t.src.txt, .bool true]) (by simp [results, Try.results16, go_sem]) rfl ⟨by rw [HN.out]; rfl, (by first | exact hB5 | exact hB5.drew)⟩
end Go.Proofs.Ytcobcmgmleblkaa
