/- The free names of an expression, of the program and of the reference; closed expressions. -/
import Derived.Test.YtoihkjnfklogpaaFreeI
namespace Go.Proofs.Ytoihkjnfklogpaa
open Go.RowKit

theorem one_cellF {w : World} {b : Nat} {v : Value} {ty : TypeId} (h : w.heap[b]? = some (.cells #[v] ty (0, 0))) : w.cell? ⟨b, 0, none⟩ = some v ∧ w.frozen? ⟨b, 0, none⟩ = false :=
  ⟨by simp only [World.cell?, h]; rfl, by simp only [World.frozen?, h]; rfl⟩

/-- The names that have been told lie, each once, in a row whose slice lies in a box. -/
def NamesI (B bo : Nat) (l : List ByteArray) (O : Nat → Prop) (w : World) : Prop :=
  B ≤ bo ∧ ∃ v, w.heap[bo]? = some (.cells #[v] 23 (0, 0)) ∧ SRow w B v (l.foldl addS []) ∧ ∀ k, O k ↔ (k = bo ∨ v.ownBlock = some k)

theorem NamesI.below {B bo : Nat} {l : List ByteArray} {O : Nat → Prop} {w w' : World} (h : NamesI B bo l O w) (hb : Below w.heap.size w w') : NamesI B bo l O w' := by
  obtain ⟨h1, v, h2, h3, h4⟩ := h
  exact ⟨h1, v, (hb.block _ (Array.getElem?_eq_some_iff.1 h2).1).trans h2, h3.below hb, h4⟩
theorem NamesI.own {B bo : Nat} {l : List ByteArray} {O : Nat → Prop} {w : World} (h : NamesI B bo l O w) : B ≤ w.heap.size ∧ ∀ k, O k → B ≤ k ∧ k < w.heap.size := by
  obtain ⟨h1, v, h2, h3, h4⟩ := h
  have h5 := (Array.getElem?_eq_some_iff.1 h2).1
  refine ⟨by omega, fun k hk => ?_⟩
  rcases (h4 k).1 hk with rfl | hk
  · exact ⟨h1, h5⟩
  · exact h3.lt k hk

set_option maxRecDepth 100000 in
set_option maxHeartbeats 1600000 in
theorem names1_any (B bo : Nat) (l : List ByteArray) (O : Nat → Prop) (s : ByteArray) (w : World) (h : NamesI B bo l O w) (hl : l.length ≤ 1000000) (hs : s.size ≤ 1000000000) :
    Calls Try.prog 76 (#[.string s] ++ #[.pointer (some ⟨bo, 0, none⟩)]) w (ToldK (NamesI B bo) B (l ++ [s]) O w) := by
  obtain ⟨hBw, hOw⟩ := h.own
  have hn := h
  obtain ⟨h1, v, h2, h3, h4⟩ := h
  obtain ⟨vo, vc, rfl, hst⟩ := h3.forms
  obtain ⟨co, fo⟩ := one_cellF h2
  have hlo := (Array.getElem?_eq_some_iff.1 h2).1
  have hfold : (l ++ [s]).foldl addS [] = addS (l.foldl addS []) s := by simp
  have hll : (l.foldl addS []).length ≤ 1000000 := by have := foldAdd_len l []; simp at this; omega
  have HC := Lib.hid (contains_any (l.foldl addS []) s vo (l.foldl addS []).length vc w hst (by omega))
  have H2 := Lib.hid h2
  have H3 := Lib.hid h3
  have H4 := Lib.hid h4
  have HN := Lib.hid hn
  have HF := Lib.hid hfold
  have HOW := Lib.hid hOw
  generalize l.foldl addS [] = L at *
  clear h2 h3 h4 hn hfold hOw hst
  by_cases hh : hasS L s = true
  · have HA : Hid (addS L s = L) := by show _ = _; unfold addS; rw [if_pos hh]
    rw [hh] at HC
    clear hh
    go_enter Try.func76, Try.ntmps76
    go_wp2_with fail
    refine HC.out.mono ?_
    rintro e w1 ⟨rfl, rfl⟩
    go_wp2
    go_end0
    exact ⟨rfl, O, ⟨h1, _, H2.out, by rw [HF.out, HA.out]; exact H3.out, H4.out⟩, fun k h => .inl h, fun _ _ _ => rfl, Below.refl _ _⟩
  · have HA : Hid (addS L s = L ++ [s]) := by show _ = _; unfold addS; rw [if_neg hh]
    have hh' : hasS L s = false := by simpa using hh
    rw [hh'] at HC
    clear hh hh'
    have hvo : (Value.slice vo L.length vc).ownBlock ≠ some bo := fun e => by obtain ⟨cur, hc⟩ := H3.out.kind e; have := H2.out; rw [hc] at this; simp at this
    have HVO := Lib.hid hvo
    clear hvo
    go_enter Try.func76, Try.ntmps76
    go_wp2_with fail
    refine HC.out.mono ?_
    rintro e w1 ⟨rfl, rfl⟩
    go_wp2_with (at_builtin; refine wpList_append_str rfl (.tmp 7) (.tmp 9) rfl B _ rfl L _ 1 rfl s (by simp) H3.out (by omega) hBw ?_; intro g2 cap2 w2 hrow2 hg2 hown2; have hx2 : w2.heap[bo]? = some (.cells #[.slice vo L.length vc] 23 (0, 0)) := (hg2.block bo (by simp <;> omega) (fun e => HVO.out e.symm)).trans ((Below.heap_alloc _ _ _ hlo).trans H2.out); have HX2 := Lib.hid hx2; obtain ⟨co2, fo2⟩ := one_cellF hx2; have hl2 : bo < w2.heap.size := (Array.getElem?_eq_some_iff.1 hx2).1)
    go_end0
    have hrow3 := hrow2.setCell (a := ⟨bo, 0, none⟩) (fun e => by
      simp only [Value.ownBlock, Option.some.injEq] at e
      subst e
      rcases hown2 with h | h
      · exact HVO.out h
      · omega) (.slice (some ⟨g2, 0, none⟩) (L.length + 1) cap2)
    have hB2 : Below B w w2 := ((Below.refl B w).alloc hBw _).grown hg2 (by simp <;> omega) (fun k hk => (H3.out.lt k hk).1)
    refine ⟨rfl, fun k => k = bo ∨ g2 = k, ⟨h1, _, Lib.heap_setCell_same (i := 0) HX2.out _, by rw [HF.out, HA.out]; exact hrow3, fun k => by simp [Value.ownBlock]⟩, ?_, ?_, hB2.setCell h1 _⟩
    · rintro k (rfl | rfl)
      · exact .inl ((H4.out _).2 (.inl rfl))
      · rcases hown2 with h | h
        · exact .inl ((H4.out _).2 (.inr h))
        · right; omega
    · intro k hk hno
      have hkb : k ≠ bo := fun e => hno ((H4.out k).2 (.inl e))
      have hkv : some k ≠ (Value.slice vo L.length vc).ownBlock := fun e => hno ((H4.out k).2 (.inr e.symm))
      rw [Below.heap_setCell _ _ _ _ (by simpa using hkb)]
      exact (hg2.block k (by simp <;> omega) hkv).trans (Below.heap_alloc _ _ _ hk)

set_option maxRecDepth 100000 in
set_option maxHeartbeats 1600000 in
theorem freeNames_any (t : Tree) (A : Nat → Prop) (v : Value) (w : World) (hr : Rep w A t v) (hb : t.sz ≤ 24000) (htx : t.text.length ≤ 12000) (hg : t.good = true) (he : t.isExpr = true) :
    Calls Try.prog 46 #[v] w (RowR ((t.occ []).foldl addS []) w) := by
  have hr1 := Rep.bound _ _ hr
  have HFR := Lib.hid (fun (bo : Nat) W (hr : Rep W (fun b => A b ∧ b < w.heap.size) t v) (hbo : w.heap.size ≤ bo) hi => free_any 76 (fun _ _ => by kernel_rfl) #[.pointer (some ⟨bo, 0, none⟩)] (NamesI w.heap.size bo) w.heap.size 1000000 (fun _ _ _ _ h hb => h.below hb) (fun _ _ _ h => h.own) (fun l O s w h hl hs => names1_any _ _ l O s w h hl hs) _ t _ v [] [] (fun k => k = bo) none 0 0 W (Nat.le_refl _) hr (fun b hb => hb.2) (Strs.nil _ _) (fun a ha => by cases ha) hi (by simp <;> omega) (by simp <;> omega) hb htx hg he)
  obtain ⟨s, ps⟩ := t
  simp only [Rep] at hr
  obtain ⟨o, l, c, rfl, hs, hcap⟩ := hr
  have hrW := Rep.keep ((Keeps.alloc _ w (.cells #[.string s, .slice o l c] 46)).alloc' (.cells #[.slice none 0 0] 23)) _ _ hr1
  have hB : Below w.heap.size w ((w.alloc (.cells #[.string s, .slice o l c] 46)).alloc (.cells #[.slice none 0 0] 23)) := ((Below.refl _ _).alloc (Nat.le_refl _) _).alloc (by simp) _
  have hx : ((w.alloc (.cells #[.string s, .slice o l c] 46)).alloc (.cells #[.slice none 0 0] 23)).heap[w.heap.size + 1]? = some (.cells #[.slice none 0 0] 23 (0, 0)) := by
    have h := heap_alloc_new (w.alloc (.cells #[.string s, .slice o l c] 46)) (.cells #[.slice none 0 0] 23)
    rw [World.size_alloc] at h
    exact h
  have hni : NamesI w.heap.size (w.heap.size + 1) [] (fun k => k = w.heap.size + 1) ((w.alloc (.cells #[.string s, .slice o l c] 46)).alloc (.cells #[.slice none 0 0] 23)) := ⟨Nat.le_succ _, _, hx, SRow.nil _ _, fun k => by simp [Value.ownBlock]⟩
  have HCF := Lib.hid (HFR.out _ _ hrW (Nat.le_succ _) hni)
  have HB := Lib.hid hB
  rw [List.nil_append] at HCF
  generalize Tree.occ [] (.node s ps) = res at *
  clear hs hr1 hrW hB hx hni hb htx hg he HFR
  go_enter Try.func46, Try.ntmps46
  go_wp2_with fail
  refine HCF.out.mono ?_
  rintro e w2 ⟨rfl, O', ⟨h1, v, h2, h3, -⟩, -, -, hb2⟩
  obtain ⟨co, fo⟩ := one_cellF h2
  obtain ⟨vo, vc, rfl, -⟩ := h3.forms
  have H3 := Lib.hid h3
  clear h3 h2
  go_wp2
  go_ret
  exact ⟨_, rfl, H3.out, HB.out.trans hb2⟩

def freeOf (s : List UInt8) : Option (List ByteArray) := (pexpr s).map fun t => (t.occ []).foldl addS []
theorem freeOf_len (s : List UInt8) : ((freeOf s).getD []).length ≤ 1000000 := by
  unfold freeOf
  cases h : pexpr s with
  | none => simp
  | some t =>
    have h1 := occ_len _ t [] (Nat.le_refl _)
    have h2 := (pexpr_facts h).2.1
    have h3 := foldAdd_len (t.occ []) []
    simp only [Option.map_some, Option.getD_some]
    simp at h3
    omega

set_option maxRecDepth 100000 in
set_option maxHeartbeats 1600000 in
theorem exprFree_any (s : ByteArray) (w : World) (hs : s.size ≤ 1000000000) : Calls Try.prog 19 #[.string s] w (TextsR (freeOf s.data.toList) w) := by
  have HC := Lib.hid (fun W => readExpr_any s W hs)
  go_enter Try.func19, Try.ntmps19
  go_wp2_with fail
  refine (HC.out _).mono ?_
  rintro e w1 ⟨a, o, l, c, ok, t, rfl, hb1, hr, hok, ht⟩
  have hB := hb1.alloc hb1.size (.cells #[.string a, .slice o l c] 46)
  have HB := Lib.hid hB
  cases hp : pexpr s.data.toList with
  | none =>
    rw [hp] at hok
    have hok' : ok = false := hok
    subst hok'
    have HR : Hid (freeOf s.data.toList = none) := by show _ = _; unfold freeOf; rw [hp]; rfl
    clear hok ht hp hr hb1 hB
    go_wp2
    go_ret2
    exact ⟨.slice none 0 0, by rw [HR.out]; rfl, by rw [HR.out]; exact SRow.nil _ _, HB.out⟩
  | some t' =>
    rw [hp] at hok
    have hok' : ok = true := hok
    subst hok'
    obtain rfl := ht _ hp
    obtain ⟨hg, hsz, htx, hexp, -⟩ := pexpr_facts hp
    have HR : Hid (freeOf s.data.toList = some ((t.occ []).foldl addS [])) := by show _ = _; unfold freeOf; rw [hp]; rfl
    have HF := Lib.hid (freeNames_any t _ _ _ (Rep.keep (Keeps.alloc _ w1 (.cells #[.string a, .slice o l c] 46)) _ _ hr) hsz htx hg hexp)
    generalize (t.occ []).foldl addS [] = res at *
    clear hok ht hp hr hg hsz htx hexp hb1
    go_wp2_with fail
    refine HF.out.mono ?_
    rintro e w2 ⟨v, rfl, hrow, hb2⟩
    obtain ⟨vo, vc, rfl, -⟩ := hrow.forms
    have HROW := Lib.hid (hrow.mono hB.size)
    have HB2 := Lib.hid (hB.trans (hb2.mono hB.size))
    clear hrow hb2 hB
    go_wp2
    go_ret2
    exact ⟨.slice vo res.length vc, by rw [HR.out]; rfl, by rw [HR.out]; exact HROW.out, HB2.out⟩

set_option maxRecDepth 100000 in
set_option maxHeartbeats 1600000 in
theorem sExprFree_any (s : ByteArray) (w : World) (hs : s.size ≤ 1000000000) : Calls Try.prog 52 #[.string s] w (TextsR (freeOf s.data.toList) w) := by
  have HC := Lib.hid (fun W => l2Parse_any s W hs)
  go_enter Try.func52, Try.ntmps52
  go_wp2_with fail
  refine (HC.out _).mono ?_
  rintro e w1 ⟨a, o, l, c, ok, t, rfl, hb1, hr, hok, ht⟩
  have hsz1 := hb1.size
  have hE : SRow ((w1.alloc (.cells #[.string a, .slice o l c] 40)).alloc (.cells #[] 9)) w.heap.size (.slice (some ⟨w1.heap.size + 1, 0, none⟩) 0 0) [] := by
    have := SRow.empty (w1.alloc (.cells #[.string a, .slice o l c] 40)) (base := w.heap.size) (by simp <;> omega)
    rw [World.size_alloc] at this
    exact this
  have HE := Lib.hid hE
  have hB1 := (hb1.alloc hb1.size (.cells #[.string a, .slice o l c] 40)).alloc (by simp <;> omega) (.cells #[] 9)
  have HB := Lib.hid hB1
  cases hp : pexpr s.data.toList with
  | none =>
    rw [hp] at hok
    have hok' : ok = false := hok
    subst hok'
    have HR : Hid (freeOf s.data.toList = none) := by show _ = _; unfold freeOf; rw [hp]; rfl
    clear hok ht hp hr hE hB1
    go_wp2
    go_ret2
    exact ⟨.slice (some ⟨w1.heap.size + 1, 0, none⟩) 0 0, by rw [HR.out]; rfl, by rw [HR.out]; exact HE.out, HB.out⟩
  | some t' =>
    rw [hp] at hok
    have hok' : ok = true := hok
    subst hok'
    obtain rfl := ht _ hp
    obtain ⟨hg, hsz, htx, hexp, -⟩ := pexpr_facts hp
    have HR : Hid (freeOf s.data.toList = some ((t.occ []).foldl addS [])) := by show _ = _; unfold freeOf; rw [hp]; rfl
    have hrb := Rep.bound _ _ hr
    have hrow : SRow (((w1.alloc (.cells #[.string a, .slice o l c] 40)).alloc (.cells #[] 9)).alloc (.cells #[] 9)) w1.heap.size (.slice (some ⟨w1.heap.size + 1 + 1, 0, none⟩) 0 0) [] := by
      have := SRow.empty ((w1.alloc (.cells #[.string a, .slice o l c] 40)).alloc (.cells #[] 9)) (base := w1.heap.size) (by simp <;> omega)
      rw [World.size_alloc, World.size_alloc] at this
      exact this
    have HF := Lib.hid (l2Free_any _ t (fun b => w.heap.size ≤ b ∧ b < w1.heap.size) _ _ [] [] (some ⟨w1.heap.size + 1, 0, none⟩) 0 0 w1.heap.size (((w1.alloc (.cells #[.string a, .slice o l c] 40)).alloc (.cells #[] 9)).alloc (.cells #[] 9)) (Nat.le_refl _) (Rep.keep (((Keeps.alloc _ w1 _).alloc' _).alloc' _) _ _ hrb) (fun b hb => hb.2) (Strs.nil _ _) (fun a ha => by cases ha; exact ⟨by simp, by simp [Value.ownBlock]⟩) hrow (by simp <;> omega) (by simp <;> omega) (by simp <;> omega) hsz htx hg hexp)
    have HB3 := Lib.hid (hB1.alloc (by simp <;> omega) (.cells #[] 9))
    generalize (t.occ []).foldl addS [] = res at *
    clear hok ht hp hr hg hsz htx hexp hrow hrb hE hB1
    go_wp2_with fail
    refine HF.out.mono ?_
    rintro e w2 ⟨v, rfl, hrow, hg2, -⟩
    obtain ⟨vo, vc, rfl, -⟩ := hrow.forms
    have HROW := Lib.hid (hrow.mono hsz1)
    have HB2 : Hid (Below w.heap.size w w2) := HB3.out.trans (hg2.to_below (by simp <;> omega) (fun k hk => by simp [Value.ownBlock] at hk; omega))
    clear hrow hg2
    go_wp2
    go_ret2
    exact ⟨.slice vo res.length vc, by rw [HR.out]; rfl, by rw [HR.out]; exact HROW.out, HB2.out⟩
end Go.Proofs.Ytoihkjnfklogpaa
