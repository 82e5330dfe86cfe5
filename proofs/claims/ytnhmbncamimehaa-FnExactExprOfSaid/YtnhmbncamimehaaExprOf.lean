/- ExprOf of the program and of the reference. -/
import Derived.Test.YtnhmbncamimehaaSampleI
namespace Go.Proofs.Ytnhmbncamimehaa
open Go.RowKit

def okS (u : Tree) : Bool := decide (u.size ≤ 120) && (decide (u.depth ≤ 60) && decide (u.text.length ≤ 12000)) && u.isExpr
theorem okS_pexpr {u : Tree} (hu : u.good = true) : (pexpr u.text).isSome = okS u := by
  rw [pexpr_isSome]
  cases hf : u.fits with
  | true =>
    rw [parse_of_fits hu hf]
    unfold okS
    have : (decide (u.depth ≤ 60) && decide (u.text.length ≤ 12000)) = true := hf
    rw [this, Bool.and_true]
    exact Bool.and_comm _ _
  | false =>
    have h := parse_isSome hu
    rw [hf] at h
    cases hp : parse u.text with
    | some t => rw [hp] at h; cases h
    | none =>
      unfold okS
      have : (decide (u.depth ≤ 60) && decide (u.text.length ≤ 12000)) = false := hf
      rw [this, Bool.and_false, Bool.false_and]

/-- The text of an expression of a type. -/
def exprOfT (s : List UInt8) : Option ByteArray := (ptype s).bind fun t => if okS t.sample then some t.sample.txt else none

theorem sample_ptype {s : List UInt8} {t : Tree} (h : ptype s = some t) : t.sample.good = true ∧ t.sample.text.length ≤ 400000 ∧ t.sample.sz ≤ 800000 ∧ t.text.length ≤ 12000 ∧ t.sz ≤ 24000 := by
  obtain ⟨hg, hty, hz, hp, htx⟩ := ptype_facts h
  have h1 := ((parse_iff _ _).1 hp).2.2.2
  rw [htx] at h1
  have h2 := parse_sz hp
  obtain ⟨f1, f2, f3⟩ := sample_facts _ t (Nat.le_refl _) hg hty h1 h2
  exact ⟨f1, by omega, by omega, h1, h2⟩

set_option maxRecDepth 100000 in
set_option maxHeartbeats 1600000 in
theorem exprOf_any (s : ByteArray) (w : World) (hs : s.size ≤ 100000000) : Calls Try.prog 33 #[.string s] w (StrR (exprOfT s.data.toList) w) := by
  have HR := Lib.hid (fun W => readType_any s W (by omega))
  cases hp : ptype s.data.toList with
  | none =>
    have HN : Hid (exprOfT s.data.toList = none) := by show _ = _; unfold exprOfT; rw [hp]; rfl
    have HP := Lib.hid hp
    clear hp
    go_enter Try.func33, Try.ntmps33
    go_wp2_with fail
    refine (HR.out _).mono ?_
    rintro e w1 ⟨a, o, l, c, ok, t, rfl, hb1, -, hok, -⟩
    rw [HP.out] at hok
    have hok' : ok = false := hok
    subst hok'
    clear hok
    go_wp2
    exact bodyPost_ret (v := .tuple #[.string ⟨#[]⟩, .bool false]) (by simp [results, Try.results33, go_sem]) rfl ⟨by rw [HN.out]; rfl, hb1.alloc hb1.size _⟩
  | some t0 =>
    obtain ⟨hg, hty, hz, -, -⟩ := ptype_facts hp
    obtain ⟨g1, g2, g3, g4, g5⟩ := sample_ptype hp
    have HN : Hid (exprOfT s.data.toList = if okS t0.sample then some t0.sample.txt else none) := by show _ = _; unfold exprOfT; rw [hp]; rfl
    have HP := Lib.hid hp
    have HIE := Lib.hid (fun (D : Nat → Prop) v W hr => isExpression_any t0.sample D v W hr (by omega) (by omega) g1)
    have HTX := Lib.hid (fun (D : Nat → Prop) v W hr => text_any t0.sample D v W hr (by omega) (by omega))
    rw [show bts t0.sample.text = t0.sample.txt from rfl] at HTX
    change Hid (∀ (D : Nat → Prop) v W, Rep W D t0.sample v → Calls Try.prog 66 #[v] W fun e w' => e = .returned (.bool (okS t0.sample)) ∧ Below W.heap.size W w') at HIE
    clear hp hg hz g1 g2 g3 g4
    go_enter Try.func33, Try.ntmps33
    go_wp2_with fail
    refine (HR.out _).mono ?_
    rintro e w1 ⟨a, o, l, c, ok, t, rfl, hb1, hr, hok, ht⟩
    rw [HP.out] at hok
    have hok' : ok = true := hok
    subst hok'
    obtain rfl := ht _ HP.out
    have hB1 := hb1.alloc hb1.size (.cells #[.string a, .slice o l c] 46)
    have HS := Lib.hid (sample_any _ t _ _ (w1.alloc (.cells #[.string a, .slice o l c] 46)) (Nat.le_refl _) (Rep.keep (Keeps.alloc _ _ _) _ _ hr) hty (by omega))
    generalize okS t.sample = b at HN HIE
    clear hok ht hr hty g5
    go_wp2_with fail
    refine HS.out.mono ?_
    rintro e w2 ⟨a2, o2, l2, c2, rfl, hr2, hb2⟩
    have hB2 := hB1.trans (hb2.mono hB1.size)
    have hB3 := hB2.alloc hB2.size (.cells #[.string a2, .slice o2 l2 c2] 46)
    have hr3 := Rep.keep (Keeps.alloc _ w2 (.cells #[.string a2, .slice o2 l2 c2] 46)) _ _ hr2
    have hx3 := heap_alloc_new w2 (.cells #[.string a2, .slice o2 l2 c2] 46)
    have HC := Lib.hid (HIE.out _ _ _ hr3)
    have HR3 := Lib.hid hr3
    have HX3 := Lib.hid hx3
    clear hr2 hr3 hx3 HS
    go_wp2_with fail
    refine HC.out.mono ?_
    rintro e w4 ⟨rfl, hb4⟩
    have hB4 := hB3.trans (hb4.mono hB3.size)
    obtain ⟨x4, y4⟩ := box_cells ((hb4.block w2.heap.size (by simp)).trans HX3.out)
    have HT4 := Lib.hid (HTX.out _ _ w4 (Rep.keep (Keeps.below hb4) _ _ HR3.out))
    clear hb4 HC
    cases b
    · go_wp2
      exact bodyPost_ret (v := .tuple #[.string ⟨#[]⟩, .bool false]) (by simp [results, Try.results33, go_sem]) rfl ⟨by rw [HN.out]; rfl, hB4⟩
    · go_wp2_with fail
      refine HT4.out.mono ?_
      rintro e w5 ⟨rfl, hb5⟩
      go_wp2
      exact bodyPost_ret (v := .tuple #[.string t.sample.txt, .bool true]) (by simp [results, Try.results33, go_sem]) rfl ⟨by rw [HN.out]; rfl, hB4.trans (hb5.mono hB4.size)⟩

set_option maxRecDepth 100000 in
set_option maxHeartbeats 1600000 in
theorem sExprOf_any (s : ByteArray) (w : World) (hs : s.size ≤ 100000000) : Calls Try.prog 32 #[.string s] w (StrR (exprOfT s.data.toList) w) := by
  have HR := Lib.hid (fun W => l1Parse_any s W (by omega))
  go_enter Try.func32, Try.ntmps32
  go_wp2_with fail
  refine (HR.out _).mono ?_
  rintro e w1 ⟨a, o, l, c, ok, t, rfl, hb1, hr, hok, ht⟩
  have hB1 := hb1.alloc hb1.size (.cells #[.string a, .slice o l c] 42)
  cases hpa : parse s.data.toList with
  | none =>
    rw [hpa] at hok
    have hok' : ok = false := hok
    subst hok'
    have HN : Hid (exprOfT s.data.toList = none) := by show _ = _; unfold exprOfT ptype; rw [hpa]; rfl
    clear hok ht hr hpa
    go_wp2
    exact bodyPost_ret (v := .tuple #[.string ⟨#[]⟩, .bool false]) (by simp [results, Try.results32, go_sem]) rfl ⟨by rw [HN.out]; rfl, hB1⟩
  | some t' =>
    rw [hpa] at hok
    have hok' : ok = true := hok
    subst hok'
    obtain rfl := ht _ hpa
    have hg := parse_good hpa
    have hsz := parse_sz hpa
    have hr1 := Rep.keep (Keeps.alloc _ w1 (.cells #[.string a, .slice o l c] 42)) _ _ hr
    have hx1 := heap_alloc_new w1 (.cells #[.string a, .slice o l c] 42)
    have HX1 := Lib.hid hx1
    have HTY := Lib.hid (l1Typed_any t _ _ _ hr1 (by omega) hg)
    cases hty : t.typed with
    | false =>
      rw [hty] at HTY
      have HN : Hid (exprOfT s.data.toList = none) := by show _ = _; unfold exprOfT ptype; rw [hpa]; simp [hty]
      clear hok ht hr hr1 hx1 hpa hg hsz hty
      go_wp2_with fail
      refine HTY.out.mono ?_
      rintro e w2 ⟨rfl, hb2⟩
      go_wp2
      exact bodyPost_ret (v := .tuple #[.string ⟨#[]⟩, .bool false]) (by simp [results, Try.results32, go_sem]) rfl ⟨by rw [HN.out]; rfl, hB1.trans (hb2.mono hB1.size)⟩
    | true =>
      rw [hty] at HTY
      have hp : ptype s.data.toList = some t := ptype_some.2 ⟨hpa, hty⟩
      obtain ⟨-, htyp, hz, -, -⟩ := ptype_facts hp
      obtain ⟨g1, g2, g3, g4, g5⟩ := sample_ptype hp
      have HN : Hid (exprOfT s.data.toList = if okS t.sample then some t.sample.txt else none) := by show _ = _; unfold exprOfT; rw [hp]; rfl
      have HOF : Hid (∀ W, Below (w1.alloc (.cells #[.string a, .slice o l c] 42)).heap.size (w1.alloc (.cells #[.string a, .slice o l c] 42)) W → Calls Try.prog 63 #[.agg #[.string a, .slice o l c]] W fun e w' => e = .returned (.string t.sample.txt) ∧ Below W.heap.size W w') := fun W h => l3Of_any _ t _ _ W (Nat.le_refl _) (Rep.keep (Keeps.below h) _ _ hr1) hg htyp hz g4 g5
      have HEV := Lib.hid (fun W => sExprValid_any t.sample.txt W (by rw [Tree.txt, bts_size]; omega))
      have hev : (pexpr t.sample.txt.data.toList).isSome = okS t.sample := by rw [Tree.txt, bts_data]; exact okS_pexpr g1
      rw [hev] at HEV
      generalize okS t.sample = b at HN HEV
      generalize t.sample.txt = X at *
      clear hok ht hr hr1 hx1 hpa hg hsz hty hp htyp hz g1 g2 g3 g4 g5 hev
      go_wp2_with fail
      refine HTY.out.mono ?_
      rintro e w2 ⟨rfl, hb2⟩
      obtain ⟨x2, y2⟩ := box_cells ((hb2.block w1.heap.size (by simp)).trans HX1.out)
      have hB2 := hB1.trans (hb2.mono hB1.size)
      have HC2 := Lib.hid (HOF.out _ hb2)
      go_wp2_with fail
      refine HC2.out.mono ?_
      rintro e w3 ⟨rfl, hb3⟩
      have hb23 := hb2.trans (hb3.mono hb2.size)
      have hB3 := hB2.trans (hb3.mono hB2.size)
      clear HC2
      go_wp2_with fail
      refine (HEV.out _).mono ?_
      rintro e w4 ⟨rfl, hb4⟩
      have hb24 := hb23.trans (hb4.mono hb23.size)
      have hB4 := hB3.trans (hb4.mono hB3.size)
      obtain ⟨x4, y4⟩ := box_cells ((hb24.block w1.heap.size (by simp)).trans HX1.out)
      have HC4 := Lib.hid (HOF.out _ hb24)
      cases b
      · go_wp2
        exact bodyPost_ret (v := .tuple #[.string ⟨#[]⟩, .bool false]) (by simp [results, Try.results32, go_sem]) rfl ⟨by rw [HN.out]; rfl, hB4⟩
      · go_wp2_with fail
        refine HC4.out.mono ?_
        rintro e w5 ⟨rfl, hb5⟩
        go_wp2
        exact bodyPost_ret (v := .tuple #[.string X, .bool true]) (by simp [results, Try.results32, go_sem]) rfl ⟨by rw [HN.out]; rfl, hB4.trans (hb5.mono hB4.size)⟩
end Go.Proofs.Ytnhmbncamimehaa
