/- SampleI. ExprOf. Several texts in one. -/
import Derived.Test.YtoihkjnfklogpaaSample
import Derived.Lib.BufferMore
/- An expression of a type: the program's form; ExprOf of both. -/
namespace Go.Proofs.Ytoihkjnfklogpaa
open Go.RowKit

/-- What a function that makes a form hands back, its blocks under C. -/
def MakesR (C : Nat → Prop) (t : Tree) (w : World) (e : Ending) (w' : World) : Prop :=
  ∃ a o l c, e = .returned (.agg #[.string a, .slice o l c]) ∧ Rep w' C t (.agg #[.string a, .slice o l c]) ∧ Below w.heap.size w w'

theorem repS_five {w : World} {C : Nat → Prop} {b : Nat} {x0 x1 y0 y1 z0 z1 u0 u1 v0 v1 : Value} {ty : TypeId} {x y z u v : Tree} (h : w.heap[b]? = some (.cells #[x0, x1, y0, y1, z0, z1, u0, u1, v0, v1] ty (0, 0))) (hC : C b)
    (hx : Rep w C x (.agg #[x0, x1])) (hy : Rep w C y (.agg #[y0, y1])) (hz : Rep w C z (.agg #[z0, z1])) (hu : Rep w C u (.agg #[u0, u1])) (hv : Rep w C v (.agg #[v0, v1])) : RepS w C [x, y, z, u, v] (some ⟨b, 0, none⟩) 5 := by
  have c : ∀ j a, (#[x0, x1, y0, y1, z0, z1, u0, u1, v0, v1] : Array Value)[j]? = some a → w.cell? ⟨b, j, none⟩ = some a := fun j a hv => by simp only [World.cell?, h]; exact hv
  simp only [RepS, RepC]
  exact ⟨b, 0, rfl, rfl, hC, ⟨x0, x1, c 0 _ rfl, c 1 _ rfl, hx⟩, ⟨y0, y1, c 2 _ rfl, c 3 _ rfl, hy⟩, ⟨z0, z1, c 4 _ rfl, c 5 _ rfl, hz⟩, ⟨u0, u1, c 6 _ rfl, c 7 _ rfl, hu⟩, ⟨v0, v1, c 8 _ rfl, c 9 _ rfl, hv⟩, trivial⟩

end Go.Proofs.Ytoihkjnfklogpaa

/- ExprOf of the program and of the reference. -/
namespace Go.Proofs.Ytoihkjnfklogpaa
open Go.RowKit

def okS (u : Tree) : Bool := decide (u.size ≤ 120) && (decide (u.depth ≤ 60) && decide (u.text.length ≤ 12000)) && u.isExpr
theorem okS_pexpr {u : Tree} (hu : u.good = true) : (pexpr u.text).isSome = okS u := by
  rw [pexpr_isSome]
  cases hf : u.fits with
  | true =>
    rw [parse_of_fits hu hf]
    unfold okS
    have : (decide (u.depth ≤ 60) && decide (u.text.length ≤ 12000)) = true := hf
    rw [this, Bool.and_true]
    exact Bool.and_comm _ _
  | false =>
    have h := parse_isSome hu
    rw [hf] at h
    cases hp : parse u.text with
    | some t => rw [hp] at h; cases h
    | none =>
      unfold okS
      have : (decide (u.depth ≤ 60) && decide (u.text.length ≤ 12000)) = false := hf
      rw [this, Bool.and_false, Bool.false_and]

/-- The text of an expression of a type. -/
def exprOfT (s : List UInt8) : Option ByteArray := (ptype s).bind fun t => if okS t.sample then some t.sample.txt else none

theorem sample_ptype {s : List UInt8} {t : Tree} (h : ptype s = some t) : t.sample.good = true ∧ t.sample.text.length ≤ 400000 ∧ t.sample.sz ≤ 800000 ∧ t.text.length ≤ 12000 ∧ t.sz ≤ 24000 := by
  obtain ⟨hg, hty, hz, hp, htx⟩ := ptype_facts h
  have h1 := ((parse_iff _ _).1 hp).2.2.2
  rw [htx] at h1
  have h2 := parse_sz hp
  obtain ⟨f1, f2, f3⟩ := sample_facts _ t (Nat.le_refl _) hg hty h1 h2
  exact ⟨f1, by omega, by omega, h1, h2⟩


set_option maxRecDepth 100000 in
set_option maxHeartbeats 1600000 in
theorem sExprOf_any (s : ByteArray) (w : World) (hs : s.size ≤ 100000000) : Calls Try.prog 112 #[.string s] w (StrR (exprOfT s.data.toList) w) := by
  have HR := Lib.hid (fun W => l1Parse_any s W (by omega))
  go_enter Try.func112, Try.ntmps112
  go_wp2_with fail
  refine (HR.out _).mono ?_
  rintro e w1 ⟨a, o, l, c, ok, t, rfl, hb1, hr, hok, ht⟩
  have hB1 := hb1.alloc hb1.size (.cells #[.string a, .slice o l c] 40)
  cases hpa : parse s.data.toList with
  | none =>
    rw [hpa] at hok
    have hok' : ok = false := hok
    subst hok'
    have HN : Hid (exprOfT s.data.toList = none) := by show _ = _; unfold exprOfT ptype; rw [hpa]; rfl
    clear hok ht hr hpa
    go_wp2
    exact bodyPost_ret (v := .tuple #[.string ⟨#[]⟩, .bool false]) (by simp [results, Try.results112, go_sem]) rfl ⟨by rw [HN.out]; rfl, hB1⟩
  | some t' =>
    rw [hpa] at hok
    have hok' : ok = true := hok
    subst hok'
    obtain rfl := ht _ hpa
    have hg := parse_good hpa
    have hsz := parse_sz hpa
    have hr1 := Rep.keep (Keeps.alloc _ w1 (.cells #[.string a, .slice o l c] 40)) _ _ hr
    have hx1 := heap_alloc_new w1 (.cells #[.string a, .slice o l c] 40)
    have HX1 := Lib.hid hx1
    have HTY := Lib.hid (l1Typed_any t _ _ _ hr1 (by omega) hg)
    cases hty : t.typed with
    | false =>
      rw [hty] at HTY
      have HN : Hid (exprOfT s.data.toList = none) := by show _ = _; unfold exprOfT ptype; rw [hpa]; simp [hty]
      clear hok ht hr hr1 hx1 hpa hg hsz hty
      go_wp2_with fail
      refine HTY.out.mono ?_
      rintro e w2 ⟨rfl, hb2⟩
      go_wp2
      exact bodyPost_ret (v := .tuple #[.string ⟨#[]⟩, .bool false]) (by simp [results, Try.results112, go_sem]) rfl ⟨by rw [HN.out]; rfl, hB1.trans (hb2.mono hB1.size)⟩
    | true =>
      rw [hty] at HTY
      have hp : ptype s.data.toList = some t := ptype_some.2 ⟨hpa, hty⟩
      obtain ⟨-, htyp, hz, -, -⟩ := ptype_facts hp
      obtain ⟨g1, g2, g3, g4, g5⟩ := sample_ptype hp
      have HN : Hid (exprOfT s.data.toList = if okS t.sample then some t.sample.txt else none) := by show _ = _; unfold exprOfT; rw [hp]; rfl
      have HOF : Hid (∀ W, Below (w1.alloc (.cells #[.string a, .slice o l c] 40)).heap.size (w1.alloc (.cells #[.string a, .slice o l c] 40)) W → Calls Try.prog 121 #[.agg #[.string a, .slice o l c]] W fun e w' => e = .returned (.string t.sample.txt) ∧ Below W.heap.size W w') := fun W h => l3Of_any _ t _ _ W (Nat.le_refl _) (Rep.keep (Keeps.below h) _ _ hr1) hg htyp hz g4 g5
      have HEV := Lib.hid (fun W => sExprValid_any t.sample.txt W (by rw [Tree.txt, bts_size]; omega))
      have hev : (pexpr t.sample.txt.data.toList).isSome = okS t.sample := by rw [Tree.txt, bts_data]; exact okS_pexpr g1
      rw [hev] at HEV
      generalize okS t.sample = b at HN HEV
      generalize t.sample.txt = X at *
      clear hok ht hr hr1 hx1 hpa hg hsz hty hp htyp hz g1 g2 g3 g4 g5 hev
      go_wp2_with fail
      refine HTY.out.mono ?_
      rintro e w2 ⟨rfl, hb2⟩
      obtain ⟨x2, y2⟩ := box_cells ((hb2.block w1.heap.size (by simp)).trans HX1.out)
      have hB2 := hB1.trans (hb2.mono hB1.size)
      have HC2 := Lib.hid (HOF.out _ hb2)
      go_wp2_with fail
      refine HC2.out.mono ?_
      rintro e w3 ⟨rfl, hb3⟩
      have hb23 := hb2.trans (hb3.mono hb2.size)
      have hB3 := hB2.trans (hb3.mono hB2.size)
      clear HC2
      go_wp2_with fail
      refine (HEV.out _).mono ?_
      rintro e w4 ⟨rfl, hb4⟩
      have hb24 := hb23.trans (hb4.mono hb23.size)
      have hB4 := hB3.trans (hb4.mono hB3.size)
      obtain ⟨x4, y4⟩ := box_cells ((hb24.block w1.heap.size (by simp)).trans HX1.out)
      have HC4 := Lib.hid (HOF.out _ hb24)
      cases b
      · go_wp2
        exact bodyPost_ret (v := .tuple #[.string ⟨#[]⟩, .bool false]) (by simp [results, Try.results112, go_sem]) rfl ⟨by rw [HN.out]; rfl, hB4⟩
      · go_wp2_with fail
        refine HC4.out.mono ?_
        rintro e w5 ⟨rfl, hb5⟩
        go_wp2
        exact bodyPost_ret (v := .tuple #[.string X, .bool true]) (by simp [results, Try.results112, go_sem]) rfl ⟨by rw [HN.out]; rfl, hB4.trans (hb5.mono hB4.size)⟩
end Go.Proofs.Ytoihkjnfklogpaa
