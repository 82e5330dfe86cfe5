/- Plain expressions, alike expressions: of the reference and of the program, of texts. -/
import Derived.Test.YtoihkjnfklogpaaRenP
import Derived.Test.YtoihkjnfklogpaaAlikeL
import Derived.Test.YtoihkjnfklogpaaExpr
namespace Go.Proofs.Ytoihkjnfklogpaa
open Go.RowKit

theorem plainly_end {t pt : Tree} {A : Nat → Prop} {w w9 : World} {a : ByteArray} {o9 : Option Addr} {l9 c9 : Nat} {ob : Obj} (hpt : t.plainly.1 = pt) (hB : Below w.heap.size w w9) (hr : Rep w9 A pt (.agg #[.string a, .slice o9 l9 c9])) (hlt : w.heap.size + 1 < w9.heap.size) (hA : ∀ b, A b → b ≠ w.heap.size + 1) (v0 v1 : Value) :
    Rep (((w9.setCell ⟨w.heap.size + 1, 0, none⟩ v0).setCell ⟨w.heap.size + 1, 1, none⟩ v1).alloc ob).drew (fun _ => True) t.plainly.1 (.agg #[.string a, .slice o9 l9 c9]) ∧ Below w.heap.size w (((w9.setCell ⟨w.heap.size + 1, 0, none⟩ v0).setCell ⟨w.heap.size + 1, 1, none⟩ v1).alloc ob).drew := by
  have hB2 := (hB.setCell (p := ⟨w.heap.size + 1, 0, none⟩) (by simp) v0).setCell (p := ⟨w.heap.size + 1, 1, none⟩) (by simp) v1
  refine ⟨?_, (hB2.alloc hB2.size ob).drew⟩
  rw [hpt]
  exact Rep.weak (fun _ _ => trivial) _ _ (Rep.keep ((((Keeps.refl A w9).setCell (fun b hb => hA b hb) v0).setCell (fun b hb => hA b hb) v1).alloc' ob).drew _ _ hr)

set_option maxRecDepth 100000 in
set_option maxHeartbeats 1600000 in
theorem l2Plainly_any (t : Tree) (A : Nat → Prop) (s : ByteArray) (o : Option Addr) (ln c : Nat) (w : World) (hr : Rep w A t (.agg #[.string s, .slice o ln c])) (hA : ∀ b, A b → b < w.heap.size) (hsz : t.sz ≤ 24000) (htx : t.text.length ≤ 12000) (hg : t.good = true) (he : t.isExpr = true) (hz : t.size ≤ 120) :
    Calls Try.prog 60 #[.agg #[.string s, .slice o ln c]] w fun e w' => ∃ a o l c, e = .returned (.tuple #[.agg #[.string a, .slice o l c], .bool true]) ∧ Rep w' (fun _ => True) t.plainly.1 (.agg #[.string a, .slice o l c]) ∧ Below w.heap.size w w' := by
  have hle := plainly_le he hz
  generalize hW4 : ((((w.alloc (.cells #[.string s, .slice o ln c] 40)).alloc (.cells #[.string ⟨#[]⟩, .slice none 0 0] 40)).alloc (.cells #[] 9)).alloc (.cells #[] 9)) = W4
  have hB4 : Below w.heap.size w W4 := by rw [← hW4]; exact ((((Below.refl _ _).alloc (Nat.le_refl _) _).alloc (by simp) _).alloc (by simp; omega) _).alloc (by simp; omega) _
  have hs4 : W4.heap.size = w.heap.size + 4 := by rw [← hW4]; simp
  have hrow : SRow W4 (w.heap.size + 3) (.slice (some ⟨w.heap.size + 3, 0, none⟩) 0 0) [] := by
    rw [← hW4]
    have := SRow.empty (((w.alloc (.cells #[.string s, .slice o ln c] 40)).alloc (.cells #[.string ⟨#[]⟩, .slice none 0 0] 40)).alloc (.cells #[] 9)) (base := w.heap.size + 3) (by simp)
    simpa using this
  have hbt : W4.heap[w.heap.size]? = some (.cells #[.string s, .slice o ln c] 40 (0, 0)) := by
    rw [← hW4]
    rw [Below.heap_alloc _ _ _ (by simp; omega), Below.heap_alloc _ _ _ (by simp; omega), Below.heap_alloc _ _ _ (by simp)]
    exact heap_alloc_new w _
  have hbo : W4.heap[w.heap.size + 1]? = some (.cells #[.string ⟨#[]⟩, .slice none 0 0] 40 (0, 0)) := by
    rw [← hW4]
    rw [Below.heap_alloc _ _ _ (by simp), Below.heap_alloc _ _ _ (by simp)]
    have := heap_alloc_new (w.alloc (.cells #[.string s, .slice o ln c] 40)) (.cells #[.string ⟨#[]⟩, .slice none 0 0] 40)
    rwa [World.size_alloc] at this
  have HF := Lib.hid (l2Free_any _ t A _ _ [] [] (some ⟨w.heap.size + 2, 0, none⟩) 0 0 (w.heap.size + 3) W4 (Nat.le_refl _) (Rep.keep (Keeps.below hB4) _ _ hr) (fun b hb => by have := hA b hb; omega) (Strs.nil _ _) (fun a ha => by cases ha; exact ⟨by simp; omega, by simp [Value.ownBlock]⟩) hrow (by omega) (by simp; omega) (by simp; omega) hsz htx hg he)
  clear hrow
  generalize hFR : (t.occ []).foldl addS [] = FR at HF
  have hFL : FR.length ≤ 1000000 := by
    have h := foldAdd_len (t.occ []) []
    have h2 := occ_len _ t [] (Nat.le_refl _)
    rw [hFR] at h
    simp at h
    omega
  have hfr : t.frees = FR := hFR
  have HRA := Lib.hid hr
  have HBT := Lib.hid hbt
  have HBO := Lib.hid hbo
  have HB4 := Lib.hid hB4
  have HLE := Lib.hid hle
  have HFR := Lib.hid hfr
  have HE := Lib.hid (And.intro hg he)
  have HA := Lib.hid hA
  clear hr hbt hbo hB4 hle hfr hFR hg he hz hA
  go_enter Try.func60, Try.ntmps60
  go_wp2_with fail
  (try rw [hW4])
  refine HF.out.mono ?_
  rintro e w5 ⟨v, rfl, hrow, hg2, hown⟩
  obtain ⟨vo, vc, rfl, -⟩ := hrow.forms
  -- what lies in the world behind the call
  have hown4 : (Value.slice (some (⟨w.heap.size + 3, 0, none⟩ : Addr)) 0 0).ownBlock = some (w.heap.size + 3) := rfl
  rw [hown4] at hg2
  have hs5 := hg2.size
  have hl := fun x hx => hrow.lt x hx
  have HB5 : Hid (Below w.heap.size w w5) := HB4.out.trans (hg2.to_below (by omega) (fun k hk => by simp at hk; omega))
  have ht5 := (hg2.block w.heap.size (by omega) (by simp)).trans HBT.out
  have ho5 := (hg2.block (w.heap.size + 1) (by omega) (by simp)).trans HBO.out
  obtain ⟨t50, t51⟩ := box_cells ht5
  have HR5 := Lib.hid hrow
  have hvo : ∀ x, vo = some x → w.heap.size + 3 ≤ x.block ∧ x.block < w5.heap.size := hrow.addr
  have HT5 := Lib.hid ht5
  have HO5 := Lib.hid ho5
  have HG5 := Lib.hid hg2
  have HVO := Lib.hid hvo
  have hlt : w.heap.size < w5.heap.size := by omega
  have HS45 := Lib.hid (And.intro hs4 hs5)
  generalize hW8 : ((w5.alloc (.cells #[.slice vo FR.length vc, .int .i64 0] 104)).alloc (.cells #[] 9)).alloc (.cells #[] 9) = W8
  have hB8 : Below w5.heap.size w5 W8 := by rw [← hW8]; exact (((Below.refl _ _).alloc (Nat.le_refl _) _).alloc (by simp) _).alloc (by simp; omega) _
  have hs8 : W8.heap.size = w5.heap.size + 3 := by rw [← hW8]; simp
  have hrb8 : W8.heap[w5.heap.size]? = some (.cells #[.slice vo FR.length vc, .int .i64 0] 104 (0, 0)) := by
    rw [← hW8]
    rw [Below.heap_alloc _ _ _ (by simp; omega), Below.heap_alloc _ _ _ (by simp)]
    exact heap_alloc_new w5 _
  have hrn8 : Rn W8 w5.heap.size vo FR.length vc FR 0 := ⟨hrb8, hrow.read.keep hB8, fun x hx => ⟨by have := (hvo x hx).2; omega, by have := (hvo x hx).2; omega⟩⟩
  have ht8 := (hB8.block w.heap.size (by omega)).trans ht5
  have ho8 := (hB8.block (w.heap.size + 1) (by omega)).trans ho5
  have hr8 : Rep W8 A t (.agg #[.string s, .slice o ln c]) := Rep.keep (Keeps.below (HB5.out.trans (hB8.mono HB5.out.size))) _ _ HRA.out
  have HP := Lib.hid (l2Plain_any FR w5.heap.size FR.length vc vo hFL _ t A _ [] [] (some ⟨w5.heap.size + 1, 0, none⟩) (some ⟨w5.heap.size + 1 + 1, 0, none⟩) 0 0 0 0 0 W8 (Nat.le_refl _) hr8 (fun b hb => by have := HA.out b hb; omega) (Strs.nil _ _) (Strs.nil _ _)
    (fun x hx => by cases hx; exact ⟨by simp, by simp; omega⟩) (fun x hx => by cases hx; exact ⟨by simp; omega, by simp; omega⟩) hrn8 rfl (by simp; omega) hsz htx HE.out.1 HE.out.2 (fun x hx => by simp at hx) (by have := HLE.out; rw [← HFR.out]; exact Nat.le_trans this (by omega)))
  have hBw8 : Below w.heap.size w W8 := HB5.out.trans (hB8.mono HB5.out.size)
  have HB8 := Lib.hid hBw8
  have HT8 := Lib.hid ht8
  have HO8 := Lib.hid ho8
  have HLS : Hid (w.heap.size + 1 < w5.heap.size ∧ w5.heap.size < W8.heap.size ∧ w.heap.size ≤ w5.heap.size) := ⟨by omega, by omega, by omega⟩
  have HPL : Hid (t.ren FR [] [] 0 = t.plainly) := by show _ = t.ren t.frees [] [] 0; rw [HFR.out]
  rw [HPL.out] at HP
  generalize hpt : t.plainly.1 = pt at HP
  generalize hpn : t.plainly.2 = pn at HP HLE
  have HPT := Lib.hid hpt
  clear hpt hpn
  have hlt : w.heap.size < w5.heap.size := by omega
  clear ht5 ho5 hrow hg2 hown hl hown4 hvo hs4 hs5 hW4 hB8 hs8 hrb8 hrn8 ht8 ho8 hr8 hBw8 HPL HFR HE HRA
  go_wp2_with fail
  (try rw [hW8])
  refine HP.out.mono ?_
  rintro e w9 ⟨a, o9, l9, c9, rfl, hr9, hrn9, hg9⟩
  clear hW8
  have hs9 := hg9.size
  have hB9 : Below w.heap.size w w9 := HB8.out.trans_grown hg9 HLS.out.2.2 HB8.out.size
  have ht9 := (hg9.block w.heap.size (by have := HLS.out; omega) (by simp; omega)).trans HT8.out
  have ho9 := (hg9.block (w.heap.size + 1) (by have := HLS.out; omega) (by have := HLS.out; simp; omega)).trans HO8.out
  obtain ⟨o90, o91⟩ := box_cells ho9
  have f90 := Lib.frozen_of_heap ho9 0
  have f91 := Lib.frozen_of_heap ho9 1
  obtain ⟨r90, r91⟩ := box_cells hrn9.1
  have hlt9 : w.heap.size + 1 < w9.heap.size := by have := HLS.out; omega
  have hlt9' : w5.heap.size < w9.heap.size := by have := HLS.out; omega
  have HN : Hid (pn ≤ 100) := HLE
  have hpn : decide ((pn : Int) ≤ 100) = true := by have := HN.out; simp; omega
  have HB9 := Lib.hid hB9
  have HR9 := Lib.hid hr9
  have HNA : Hid (∀ b, (A b ∨ W8.heap.size ≤ b) → b ≠ w.heap.size + 1) := fun b hb => by
    have := HLS.out
    rcases hb with h | h
    · have := HA.out b h; omega
    · omega
  have hS : ((w9.setCell ⟨w.heap.size + 1, 0, none⟩ (.string a)).setCell ⟨w.heap.size + 1, 1, none⟩ (.slice o9 l9 c9)).heap[w.heap.size + 1]? = some (.cells #[.string a, .slice o9 l9 c9] 40 (0, 0)) := by
    simp [World.setCell, Array.getElem?_modify, ho9]
  obtain ⟨q0, q1⟩ := box_cells ((Below.heap_alloc ((w9.setCell ⟨w.heap.size + 1, 0, none⟩ (.string a)).setCell ⟨w.heap.size + 1, 1, none⟩ (.slice o9 l9 c9)) (.cells #[.string a, .slice o9 l9 c9] 40) (w.heap.size + 1) (by simp [World.setCell]; omega)).trans hS)
  have Q0 := Lib.hid (And.intro q0 q1)
  clear ht9 ho9 hB9 hr9 hrn9 hg9 hs9 hS q0 q1
  have hne1 : ¬ w5.heap.size = w.heap.size + 1 := by have := HLS.out; omega
  have hne2 : ¬ w.heap.size + 1 = w5.heap.size := by have := HLS.out; omega
  have r92 : ((w9.setCell ⟨w.heap.size + 1, 0, none⟩ (.string a)).setCell ⟨w.heap.size + 1, 1, none⟩ (.slice o9 l9 c9)).cell? ⟨w5.heap.size, 1, none⟩ = some (.int .i64 pn) :=
    (World.cell?_of_block (w := w9) ((Below.heap_setCell _ _ _ _ hne1).trans (Below.heap_setCell _ _ _ _ hne1))).trans r91
  go_wp2_with fail
  go_region
  all_goals
    go_wp2
    obtain ⟨q0, q1⟩ := Q0.out
    exact bodyPost_ret (v := .tuple #[.agg #[.string a, .slice o9 l9 c9], .bool true]) (by simp [results, Try.results60, go_sem, q0, q1]) rfl
      ⟨a, o9, l9, c9, rfl, plainly_end HPT.out HB9.out HR9.out hlt9 HNA.out _ _⟩
set_option maxRecDepth 100000 in
set_option maxHeartbeats 1600000 in
theorem sExprPlain_any (s : ByteArray) (w : World) (hs : s.size ≤ 1000000000) :
    Calls Try.prog 35 #[.string s] w fun e w' => e = .returned (.tuple #[.string ((plainT s.data.toList).getD ⟨#[]⟩), .bool (plainT s.data.toList).isSome]) ∧ Below w.heap.size w w' := by
  have HC := Lib.hid (fun W => l2Parse_any s W hs)
  go_enter Try.func35, Try.ntmps35
  go_wp2_with fail
  refine (HC.out _).mono ?_
  rintro e w1 ⟨a, o, l, c, ok, t, rfl, hb1, hr, hok, ht⟩
  have hB1 := hb1.alloc hb1.size (.cells #[.string a, .slice o l c] 40)
  have HB := Lib.hid hB1
  cases hp : pexpr s.data.toList with
  | none =>
    rw [hp] at hok
    have hok' : ok = false := hok
    subst hok'
    have HR : Hid (plainT s.data.toList = none) := by show _ = _; unfold plainT; rw [hp]; rfl
    clear hok ht hp hr hB1
    go_wp2
    go_ret2
    exact ⟨by rw [HR.out]; rfl, HB.out⟩
  | some t' =>
    rw [hp] at hok
    have hok' : ok = true := hok
    subst hok'
    obtain rfl := ht _ hp
    obtain ⟨hg, hsz, htx, hexp, hz, -⟩ := pexpr_facts hp
    have HR : Hid (plainT s.data.toList = some (bts t.plainly.1.text)) := by show _ = _; unfold plainT; rw [hp]; rfl
    have hrb := Rep.bound _ _ hr
    have HF := Lib.hid (l2Plainly_any t (fun b => w.heap.size ≤ b ∧ b < w1.heap.size) a o l c (w1.alloc (.cells #[.string a, .slice o l c] 40)) (Rep.keep (Keeps.alloc _ w1 _) _ _ hrb) (fun b hb => by have := hb.2; simp; omega) hsz htx hg hexp hz)
    have fin := plainly_fine hexp hg htx hz
    have HTX := Lib.hid (fun v W (hr : Rep W (fun _ => True) t.plainly.1 v) => l1Text_any _ t.plainly.1 _ v W (Nat.le_refl _) hr (by have := fin.sz; omega) (by have := fin.text; omega) fin.good)
    generalize t.plainly.1 = pt at *
    clear hok ht hp hr hg hsz htx hexp hz hrb hB1 fin
    go_wp2_with fail
    refine HF.out.mono ?_
    rintro e w2 ⟨a2, o2, l2, c2, rfl, hr2, hb2⟩
    have HB2 : Hid (Below w.heap.size w (w2.alloc (.cells #[.string a2, .slice o2 l2 c2] 40))) := by
      have h := HB.out.trans (hb2.mono HB.out.size)
      exact h.alloc h.size _
    have HR2 := Lib.hid (Rep.keep (Keeps.alloc _ w2 (.cells #[.string a2, .slice o2 l2 c2] 40)) _ _ hr2)
    clear hr2 hb2
    go_wp2_with fail
    refine (HTX.out _ _ HR2.out).mono ?_
    rintro e w3 ⟨rfl, hb3⟩
    have HB3 := Lib.hid (HB2.out.trans (hb3.mono HB2.out.size))
    clear hb3
    go_wp2
    go_ret2
    exact ⟨by rw [HR.out]; rfl, HB3.out⟩

set_option maxRecDepth 100000 in
set_option maxHeartbeats 1600000 in
theorem sExprAlike_any (s z : ByteArray) (w : World) (hs : s.size ≤ 1000000000) (hz : z.size ≤ 1000000000) :
    Calls Try.prog 14 #[.string s, .string z] w fun e w' => e = .returned (.bool (alikeT s.data.toList z.data.toList)) ∧ Below w.heap.size w w' := by
  have H1 := Lib.hid (fun W => sExprPlain_any s W hs)
  have H2 := Lib.hid (fun W => sExprPlain_any z W hz)
  have HT : Hid (alikeT s.data.toList z.data.toList = ((plainT s.data.toList).isSome && ((plainT z.data.toList).isSome && ((plainT s.data.toList).getD ⟨#[]⟩).toList == ((plainT z.data.toList).getD ⟨#[]⟩).toList))) := by
    show _ = _
    rw [alikeT_plain, eqT_dec]
  generalize (plainT s.data.toList).isSome = p at *
  generalize (plainT z.data.toList).isSome = q at *
  generalize (plainT s.data.toList).getD ⟨#[]⟩ = x at *
  generalize (plainT z.data.toList).getD ⟨#[]⟩ = y at *
  go_enter Try.func14, Try.ntmps14
  go_wp2_with fail
  refine (H1.out _).mono ?_
  rintro e w1 ⟨rfl, hb1⟩
  have HB1 := Lib.hid hb1
  clear hb1
  go_wp2_with fail
  refine (H2.out _).mono ?_
  rintro e w2 ⟨rfl, hb2⟩
  have HB2 := Lib.hid (HB1.out.trans (hb2.mono HB1.out.size))
  clear hb2
  cases p
  · go_wp2
    go_ret
    exact ⟨by rw [HT.out]; rfl, HB2.out⟩
  · cases q
    · go_wp2
      go_ret
      exact ⟨by rw [HT.out]; rfl, HB2.out⟩
    · go_wp2
      go_ret
      exact ⟨by rw [HT.out]; simp, HB2.out⟩

set_option maxRecDepth 100000 in
set_option maxHeartbeats 1600000 in
theorem exprAlike_any (s z : ByteArray) (w : World) (hs : s.size ≤ 1000000000) (hz : z.size ≤ 1000000000) :
    Calls Try.prog 15 #[.string s, .string z] w fun e w' => e = .returned (.bool (alikeT s.data.toList z.data.toList)) ∧ Below w.heap.size w w' := by
  have H1 := Lib.hid (fun W => readExpr_any s W hs)
  have H2 := Lib.hid (fun W => readExpr_any z W hz)
  go_enter Try.func15, Try.ntmps15
  go_wp2_with fail
  refine (H1.out _).mono ?_
  rintro e w1 ⟨a, o, l, c, p, t, rfl, hb1, hr1, hp, ht⟩
  have HB1 : Hid (Below w.heap.size w (w1.alloc (.cells #[.string a, .slice o l c] 46))) := hb1.alloc hb1.size _
  have hx1 := two_new w1 (.string a) (.slice o l c) 46
  have HR1 := Lib.hid (Rep.keep (Keeps.alloc _ w1 (.cells #[.string a, .slice o l c] 46)) _ _ (Rep.bound _ _ hr1))
  clear hb1 hr1
  go_wp2_with fail
  refine (H2.out _).mono ?_
  rintro e w2 ⟨a2, o2, l2, c2, q, u, rfl, hb2, hr2, hq, hu⟩
  have HB2 : Hid (Below w.heap.size w (w2.alloc (.cells #[.string a2, .slice o2 l2 c2] 46))) := by
    have h := HB1.out.trans (hb2.mono HB1.out.size)
    exact h.alloc h.size _
  have hlt1 : w1.heap.size < w2.heap.size := by have := hb2.size; simp at this; omega
  obtain ⟨k0, k1⟩ : w2.cell? ⟨w1.heap.size, 0, none⟩ = some (.string a) ∧ w2.cell? ⟨w1.heap.size, 1, none⟩ = some (.slice o l c) :=
    ⟨(hb2.cell (by simp)).trans hx1.1, (hb2.cell (by simp)).trans hx1.2⟩
  have HRA : Hid (Rep (w2.alloc (.cells #[.string a2, .slice o2 l2 c2] 46)) (fun _ => True) t (.agg #[.string a, .slice o l c])) :=
    Rep.weak (fun _ _ => trivial) _ _ (Rep.keep ((Keeps.below hb2).alloc' _) _ _ HR1.out)
  have HRB : Hid (Rep (w2.alloc (.cells #[.string a2, .slice o2 l2 c2] 46)) (fun _ => True) u (.agg #[.string a2, .slice o2 l2 c2])) :=
    Rep.weak (fun _ _ => trivial) _ _ (Rep.keep (Keeps.alloc _ w2 _) _ _ hr2)
  clear hb2 hr2 hx1
  cases hs1 : pexpr s.data.toList with
  | none =>
    rw [hs1] at hp
    have hp' : p = false := hp
    subst hp'
    have HT : Hid (alikeT s.data.toList z.data.toList = false) := by show _ = _; unfold alikeT; rw [hs1]
    clear hp ht hs1 hq hu
    go_wp2
    go_ret
    exact ⟨by rw [HT.out]; rfl, HB2.out⟩
  | some t' =>
    rw [hs1] at hp
    have hp' : p = true := hp
    subst hp'
    obtain rfl := ht _ hs1
    cases hz1 : pexpr z.data.toList with
    | none =>
      rw [hz1] at hq
      have hq' : q = false := hq
      subst hq'
      have HT : Hid (alikeT s.data.toList z.data.toList = false) := by show _ = _; unfold alikeT; rw [hs1, hz1]
      clear hp ht hs1 hq hu hz1
      go_wp2
      go_ret
      exact ⟨by rw [HT.out]; rfl, HB2.out⟩
    | some u' =>
      rw [hz1] at hq
      have hq' : q = true := hq
      subst hq'
      obtain rfl := hu _ hz1
      obtain ⟨h1, h2, h3, h4, h5, h6⟩ := pexpr_facts hs1
      obtain ⟨i1, i2, i3, i4, i5, i6⟩ := pexpr_facts hz1
      have HT : Hid (alikeT s.data.toList z.data.toList = t.alike u [] []) := by show _ = _; unfold alikeT; rw [hs1, hz1]
      have HA := Lib.hid (alike_any _ t u (fun _ => True) _ _ [] [] none none 0 0 0 0 (w2.alloc (.cells #[.string a2, .slice o2 l2 c2] 46)) (Nat.le_refl _) HRA.out HRB.out (Strs.nil _ _) (Strs.nil _ _) (by simp; omega) (by simp; omega) h2 i2 h3 i3 h1 i1 h4 i4)
      generalize t.alike u [] [] = r at *
      clear hp ht hs1 hq hu hz1 h1 h2 h3 h4 h5 h6 i1 i2 i3 i4 i5 i6
      go_wp2_with fail
      refine HA.out.mono ?_
      rintro e w3 ⟨rfl, hb3⟩
      have HB3 := Lib.hid (HB2.out.trans (hb3.mono HB2.out.size))
      clear hb3
      go_wp2
      go_ret
      exact ⟨by rw [HT.out]; rfl, HB3.out⟩
end Go.Proofs.Ytoihkjnfklogpaa
