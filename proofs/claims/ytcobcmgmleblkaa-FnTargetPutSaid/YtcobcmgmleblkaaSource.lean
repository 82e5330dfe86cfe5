/- A type whose target type a form may be: of the program. -/
import Derived.Test.YtcobcmgmleblkaaSame
import Derived.Test.YtcobcmgmleblkaaBackP
import Derived.Test.YtcobcmgmleblkaaTgtT
namespace Go.Proofs.Ytcobcmgmleblkaa
open Go.RowKit

theorem isZ_yes {t : Tree} {c : UInt8} {z : Nat} (h : isZ t ⟨#[c]⟩ z = true) : ∃ a ps, t = .node a ps ∧ ps.length = z ∧ t.hd.data.toList = [c] := by
  obtain ⟨a, ps⟩ := t
  unfold isZ at h
  simp only [Bool.and_eq_true, Tree.parts] at h
  refine ⟨a, ps, rfl, by have := of_decide_eq_true h.1; omega, ?_⟩
  have h2 := h.2
  rw [Lib.toList_data, Lib.toList_data] at h2
  simpa using h2
theorem isZ_two {t : Tree} {c : UInt8} (h : isZ t ⟨#[c]⟩ 2 = true) : ∃ a p x, t = .node a [p, x] ∧ p.atom.data.toList = [c] := by
  obtain ⟨a, ps, rfl, hl, hh⟩ := isZ_yes (z := 2) h
  match ps, hl, hh with
  | [p, x], _, hh => exact ⟨a, p, x, rfl, hh⟩
theorem isZ_3 {t : Tree} {c : UInt8} (h : isZ t ⟨#[c]⟩ 3 = true) : ∃ a p x y, t = .node a [p, x, y] ∧ p.atom.data.toList = [c] := by
  obtain ⟨a, ps, rfl, hl, hh⟩ := isZ_yes (z := 3) h
  match ps, hl, hh with
  | [p, x, y], _, hh => exact ⟨a, p, x, y, rfl, hh⟩
theorem isZ_four {t : Tree} {c : UInt8} (h : isZ t ⟨#[c]⟩ 4 = true) : ∃ a p x y z, t = .node a [p, x, y, z] ∧ p.atom.data.toList = [c] := by
  obtain ⟨a, ps, rfl, hl, hh⟩ := isZ_yes (z := 4) h
  match ps, hl, hh with
  | [p, x, y, z], _, hh => exact ⟨a, p, x, y, z, rfl, hh⟩
theorem isZ_set {a : ByteArray} {p : Tree} {ps : List Tree} {c : UInt8} (z : Nat) (hp : p.atom.data.toList = [c]) (hl : ps.length + 1 = z) : isZ (.node a (p :: ps)) ⟨#[c]⟩ z = true := by
  unfold isZ
  simp only [Bool.and_eq_true, Tree.parts, List.length_cons]
  refine ⟨decide_eq_true (by omega), ?_⟩
  rw [Lib.toList_data, Lib.toList_data]
  simpa [Tree.hd] using hp

/-- In what order the program looks at a form. -/
theorem cut_shape (t : Tree) :
    (isZ t ⟨#[116]⟩ 3 = true ∧ ∃ a p x y, t = .node a [p, x, y] ∧ t.cut3 = some (42, x, y)) ∨ (isZ t ⟨#[116]⟩ 3 = false ∧
    ((isZ t ⟨#[101]⟩ 2 = false ∧ t.cut3 = none) ∨ (isZ t ⟨#[101]⟩ 2 = true ∧ ∃ a p k, t = .node a [p, k] ∧
    ((isZ k ⟨#[116]⟩ 3 = false ∧ t.cut3 = none) ∨ (isZ k ⟨#[116]⟩ 3 = true ∧ ∃ b q c z, k = .node b [q, c, z] ∧
    ((isZ c ⟨#[99]⟩ 4 = false ∧ t.cut3 = none) ∨ (isZ c ⟨#[99]⟩ 4 = true ∧ ∃ d r m x l, c = .node d [r, m, x, l] ∧
    ((isZ l ⟨#[101]⟩ 2 = false ∧ t.cut3 = none) ∨ (isZ l ⟨#[101]⟩ 2 = true ∧ ∃ a2 p2 k2, l = .node a2 [p2, k2] ∧
    ((isZ k2 ⟨#[116]⟩ 3 = false ∧ t.cut3 = none) ∨ (isZ k2 ⟨#[116]⟩ 3 = true ∧ ∃ b2 q2 c2 z2, k2 = .node b2 [q2, c2, z2] ∧
    ((isZ c2 ⟨#[99]⟩ 3 = false ∧ t.cut3 = none) ∨ (isZ c2 ⟨#[99]⟩ 3 = true ∧ ∃ d2 r2 m2 y, c2 = .node d2 [r2, m2, y] ∧ t.cut3 = some (62, x, y)))))))))))))) := by
  by_cases h1 : isZ t ⟨#[116]⟩ 3 = true
  · obtain ⟨a, p, x, y, rfl, hp⟩ := isZ_3 h1
    exact .inl ⟨h1, a, p, x, y, rfl, cut3_t a p x y hp⟩
  · refine .inr ⟨by simpa using h1, ?_⟩
    by_cases h2 : isZ t ⟨#[101]⟩ 2 = true
    · obtain ⟨a, p, k, rfl, hp⟩ := isZ_two h2
      refine .inr ⟨h2, a, p, k, rfl, ?_⟩
      rw [cut3_two]
      by_cases h3 : isZ k ⟨#[116]⟩ 3 = true
      · obtain ⟨b, q, c, z, rfl, hq⟩ := isZ_3 h3
        refine .inr ⟨h3, b, q, c, z, rfl, ?_⟩
        by_cases h4 : isZ c ⟨#[99]⟩ 4 = true
        · obtain ⟨d, r, m, x, l, rfl, hr⟩ := isZ_four h4
          refine .inr ⟨h4, d, r, m, x, l, rfl, ?_⟩
          have hc : (Tree.node a [p, .node b [q, .node d [r, m, x, l], z]]).code = [r, m, x, l] := by simp [Tree.code, hp, hq, hr]
          rw [hc]
          simp only [code4]
          by_cases h5 : isZ l ⟨#[101]⟩ 2 = true
          · obtain ⟨a2, p2, k2, rfl, hp2⟩ := isZ_two h5
            refine .inr ⟨h5, a2, p2, k2, rfl, ?_⟩
            by_cases h6 : isZ k2 ⟨#[116]⟩ 3 = true
            · obtain ⟨b2, q2, c2, z2, rfl, hq2⟩ := isZ_3 h6
              refine .inr ⟨h6, b2, q2, c2, z2, rfl, ?_⟩
              by_cases h7 : isZ c2 ⟨#[99]⟩ 3 = true
              · obtain ⟨d2, r2, m2, y, rfl, hr2⟩ := isZ_3 h7
                refine .inr ⟨h7, d2, r2, m2, y, rfl, ?_⟩
                have hc2 : (Tree.node a2 [p2, .node b2 [q2, .node d2 [r2, m2, y], z2]]).code = [r2, m2, y] := by simp [Tree.code, hp2, hq2, hr2]
                rw [hc2]; rfl
              · refine .inl ⟨by simpa using h7, ?_⟩
                rw [code3_none (fun hl => ?_)]
                unfold Tree.code at hl
                split at hl
                · rename_i heq
                  split at hl
                  · rename_i hh
                    simp only [Tree.node.injEq, List.cons.injEq] at heq
                    obtain ⟨-, -, ⟨-, -, ⟨hc, -⟩⟩, -⟩ := heq
                    subst hc
                    exact h7 (isZ_set 3 hh.2.2 hl)
                  · cases hl
                · cases hl
            · refine .inl ⟨by simpa using h6, ?_⟩
              rw [code3_none (fun hl => ?_)]
              unfold Tree.code at hl
              split at hl
              · rename_i heq
                split at hl
                · rename_i hh
                  simp only [Tree.node.injEq, List.cons.injEq] at heq
                  obtain ⟨-, -, hk, -⟩ := heq
                  subst hk
                  exact h6 (isZ_set 3 hh.2.1 rfl)
                · cases hl
              · cases hl
          · refine .inl ⟨by simpa using h5, ?_⟩
            rw [code3_none (fun hl => ?_)]
            unfold Tree.code at hl
            split at hl
            · split at hl
              · rename_i hh
                exact h5 (isZ_set 2 hh.1 rfl)
              · cases hl
            · cases hl
        · refine .inl ⟨by simpa using h4, ?_⟩
          rw [code4_none (fun hl => ?_)]
          unfold Tree.code at hl
          split at hl
          · rename_i heq
            split at hl
            · rename_i hh
              simp only [Tree.node.injEq, List.cons.injEq] at heq
              obtain ⟨-, -, ⟨-, -, ⟨hc, -⟩⟩, -⟩ := heq
              subst hc
              exact h4 (isZ_set 4 hh.2.2 hl)
            · cases hl
          · cases hl
      · refine .inl ⟨by simpa using h3, ?_⟩
        rw [code4_none (fun hl => ?_)]
        unfold Tree.code at hl
        split at hl
        · rename_i heq
          split at hl
          · rename_i hh
            simp only [Tree.node.injEq, List.cons.injEq] at heq
            obtain ⟨-, -, hk, -⟩ := heq
            subst hk
            exact h3 (isZ_set 3 hh.2.1 rfl)
          · cases hl
        · cases hl
    · refine .inl ⟨by simpa using h2, ?_⟩
      unfold Tree.cut3
      split
      · rename_i heq
        rw [if_neg]
        intro hp
        exact h1 (isZ_set 3 hp rfl)
      · rw [code4_none (fun hl => ?_)]
        unfold Tree.code at hl
        split at hl
        · split at hl
          · rename_i hh
            exact h2 (isZ_set 2 hh.1 rfl)
          · cases hl
        · cases hl

/-- What source hands back. -/
def SrcR (A : Nat → Prop) (t : Tree) (w : World) (e : Ending) (w' : World) : Prop :=
  ∃ a o l c, e = .returned (.tuple #[.agg #[.string a, .slice o l c], .bool t.srcB]) ∧ Rep w' (fun z => A z ∨ w.heap.size ≤ z) t.src (.agg #[.string a, .slice o l c]) ∧ Below w.heap.size w w'

set_option maxRecDepth 100000 in
set_option maxHeartbeats 20000000 in
theorem source_any (n : Nat) : ∀ (t : Tree) (A : Nat → Prop) (v : Value) (w : World), t.sz ≤ n → Rep w A t v → t.sz ≤ 1000000000 →
    Calls Try.prog 40 #[v] w (SrcR A t w) := by
  induction n with
  | zero => intro t A v w h; cases t; simp [Tree.sz] at h
  | succ n ih =>
    intro t A v w hn hr hb
    have hsh := cut_shape t
    have hr0 := Rep.bound _ _ hr
    have HI := Lib.hid (fun (u : Tree) (h : ByteArray) (z : Int) (D : Nat → Prop) v w hr (hz : u.sz ≤ 1000000000) => is_any u D v w h z hr (by cases u with | node a ps => have := Tree.length_le_szL ps; simp only [Tree.sz, Tree.parts] at *; omega))
    obtain ⟨s, ps⟩ := t
    simp only [Rep] at hr
    obtain ⟨o, l, c, rfl, hs, hcap⟩ := hr
    obtain rfl := hs.len
    have bel0 : Below w.heap.size w ((w.alloc (.cells #[.string s, .slice o ps.length c] 38)).alloc (.cells #[.string ⟨#[]⟩, .slice none 0 0] 38)) := ((Below.refl _ _).alloc (Nat.le_refl _) _).alloc (by simp) _
    have hx0 : ((w.alloc (.cells #[.string s, .slice o ps.length c] 38)).alloc (.cells #[.string ⟨#[]⟩, .slice none 0 0] 38)).heap[w.heap.size]? = some (.cells #[.string s, .slice o ps.length c] 38 (0, 0)) := (Lib.alloc_old _ _ _ (by simp)).trans (heap_alloc_new _ _)
    have hx1 : ((w.alloc (.cells #[.string s, .slice o ps.length c] 38)).alloc (.cells #[.string ⟨#[]⟩, .slice none 0 0] 38)).heap[w.heap.size + 1]? = some (.cells #[.string ⟨#[]⟩, .slice none 0 0] 38 (0, 0)) := by
      have := heap_alloc_new (w.alloc (.cells #[.string s, .slice o ps.length c] 38)) (.cells #[.string ⟨#[]⟩, .slice none 0 0] 38)
      rwa [World.size_alloc] at this
    have HX0 := Lib.hid hx0
    have HX1 := Lib.hid hx1
    have HR0 := Lib.hid hr0
    clear hx0 hx1 hr0
    by_cases hps : ps = []
    · subst hps
      have hcut : (Tree.node s []).cut3 = none := rfl
      have hsrc : (Tree.node s []).src = .node s [] := (src_none hcut).1
      have hsb : (Tree.node s []).srcB = (s.toList == [105]) := by
        rw [(src_none hcut).2.1, Lib.toList_data]
        show (true && decide (s.data.toList = [105])) = _
        rw [Bool.eq_iff_iff]; simp
      unfold SrcR
      rw [hsrc, hsb]
      clear hsrc hsb ih hcut hsh HI
      go_enter Try.func40, Try.ntmps40
      go_wp2_with fail
      refine (isAtom_any _ _ _ _ _).mono ?_
      rintro e w1 ⟨rfl, hb1⟩
      have hz1 := hb1.size
      simp only [World.size_alloc] at hz1
      obtain ⟨c0, c1⟩ := box_cells ((hb1.block w.heap.size (by simp <;> omega)).trans HX0.out)
      have hr1 := (hb1.block (w.heap.size + 1) (by simp)).trans HX1.out
      obtain ⟨d0, d1⟩ := box_cells hr1
      have f0 := Lib.frozen_of_heap hr1 0
      have f1 := Lib.frozen_of_heap hr1 1
      have hl1 : w.heap.size + 1 < w1.heap.size := by omega
      have hw1 : Below w.heap.size w w1 := bel0.trans (hb1.mono (by simp <;> omega))
      clear hr1 hb1
      go_wp2
      go_region
      all_goals
        go_wp2
        exact bodyPost_ret (v := .tuple #[.agg #[.string s, .slice o 0 c], .bool (s.toList == [105])]) (by simp [results, Try.results40, go_sem, d0, d1]) rfl ⟨s, o, 0, c, rfl, by simp only [Rep]; exact ⟨o, 0, c, rfl, RepS.nil _ _ _, Nat.zero_le _⟩, ((hw1.setCell (by simp) _).setCell (by simp) _).drew⟩
    · have hlen : (((ps.length : Nat) : Int) == 0) = false := by have : ps.length ≠ 0 := fun h => hps (List.length_eq_zero_iff.1 h); simp; omega
      go_enter Try.func40, Try.ntmps40
      go_wp2_with fail
      refine (isAtom_any _ _ _ _ _).mono ?_
      rintro e w1 ⟨rfl, hb1⟩
      have hz1 := hb1.size
      simp only [World.size_alloc] at hz1
      have hq0 := (hb1.block w.heap.size (by simp <;> omega)).trans HX0.out
      obtain ⟨c0, c1⟩ := box_cells hq0
      have hw1 : Below w.heap.size w w1 := bel0.trans (hb1.mono (by simp <;> omega))
      have hrc := (hb1.block (w.heap.size + 1) (by simp)).trans HX1.out
      have HQ0 := Lib.hid hq0
      have HRC := Lib.hid hrc
      have bel2 : Below w1.heap.size w1 ((w1.alloc (.cells #[.string ⟨#[]⟩, .slice none 0 0] 38)).alloc (.cells #[.string ⟨#[]⟩, .slice none 0 0] 38)) := ((Below.refl _ _).alloc (Nat.le_refl _) _).alloc (by simp) _
      have hw2 : Below w.heap.size w ((w1.alloc (.cells #[.string ⟨#[]⟩, .slice none 0 0] 38)).alloc (.cells #[.string ⟨#[]⟩, .slice none 0 0] 38)) := hw1.trans (bel2.mono hw1.size)
      have h2q := (bel2.block w.heap.size (by omega)).trans hq0
      have h2r := (bel2.block (w.heap.size + 1) (by omega)).trans hrc
      have h24 : ((w1.alloc (.cells #[.string ⟨#[]⟩, .slice none 0 0] 38)).alloc (.cells #[.string ⟨#[]⟩, .slice none 0 0] 38)).heap[w1.heap.size]? = some (.cells #[.string ⟨#[]⟩, .slice none 0 0] 38 (0, 0)) := (Lib.alloc_old _ _ _ (by simp)).trans (heap_alloc_new _ _)
      have h25 : ((w1.alloc (.cells #[.string ⟨#[]⟩, .slice none 0 0] 38)).alloc (.cells #[.string ⟨#[]⟩, .slice none 0 0] 38)).heap[w1.heap.size + 1]? = some (.cells #[.string ⟨#[]⟩, .slice none 0 0] 38 (0, 0)) := by
        have := heap_alloc_new (w1.alloc (.cells #[.string ⟨#[]⟩, .slice none 0 0] 38)) (.cells #[.string ⟨#[]⟩, .slice none 0 0] 38)
        rwa [World.size_alloc] at this
      have hz2 : ((w1.alloc (.cells #[.string ⟨#[]⟩, .slice none 0 0] 38)).alloc (.cells #[.string ⟨#[]⟩, .slice none 0 0] 38)).heap.size = w1.heap.size + 2 := by simp
      have H2Q := Lib.hid h2q
      have H2R := Lib.hid h2r
      have H24 := Lib.hid h24
      have H25 := Lib.hid h25
      have HW2 := Lib.hid hw2
      clear c0 c1
      obtain ⟨c0, c1⟩ := box_cells h2q
      -- what a world beyond that still holds
      have HK : Hid (∀ W, Below ((w1.alloc (.cells #[.string ⟨#[]⟩, .slice none 0 0] 38)).alloc (.cells #[.string ⟨#[]⟩, .slice none 0 0] 38)).heap.size ((w1.alloc (.cells #[.string ⟨#[]⟩, .slice none 0 0] 38)).alloc (.cells #[.string ⟨#[]⟩, .slice none 0 0] 38)) W → W.heap[w.heap.size]? = some (.cells #[.string s, .slice o ps.length c] 38 (0, 0)) ∧ W.heap[w.heap.size + 1]? = some (.cells #[.string ⟨#[]⟩, .slice none 0 0] 38 (0, 0)) ∧ W.heap[w1.heap.size]? = some (.cells #[.string ⟨#[]⟩, .slice none 0 0] 38 (0, 0)) ∧ W.heap[w1.heap.size + 1]? = some (.cells #[.string ⟨#[]⟩, .slice none 0 0] 38 (0, 0)) ∧ Below w.heap.size w W ∧ Rep W (fun b => A b ∧ b < w.heap.size) (Tree.node s ps) (.agg #[.string s, .slice o ps.length c])) := fun W h =>
        ⟨(h.block w.heap.size (by rw [hz2]; omega)).trans H2Q.out, (h.block (w.heap.size + 1) (by rw [hz2]; omega)).trans H2R.out, (h.block w1.heap.size (by rw [hz2]; omega)).trans H24.out, (h.block (w1.heap.size + 1) (by rw [hz2]; omega)).trans H25.out, HW2.out.trans (h.mono (by rw [hz2]; omega)), Rep.keep (Keeps.below' (HW2.out.trans (h.mono (by rw [hz2]; omega))) (fun z hz => hz.2)) _ _ HR0.out⟩
      have HT0 := Lib.hid ((HK.out _ (Below.refl _ _)).2.2.2.2.2)
      clear hq0 hrc h2q h2r h24 h25
      rcases hsh with ⟨i1, a', p, x, y, ht, hcut⟩ | ⟨i1, hsh⟩
      · obtain ⟨rfl, rfl⟩ : s = a' ∧ ps = [p, x, y] := by cases ht; exact ⟨rfl, rfl⟩
        have HSR := Lib.hid (src_some hcut).1
        have HSB := Lib.hid (src_some hcut).2.1
        have hbt := hb
        simp only [Tree.sz, Tree.szL] at hn hb
        have HX := Lib.hid (fun (D : Nat → Prop) v w hr => ih x D v w (by omega) hr (by omega))
        have HY := Lib.hid (fun (D : Nat → Prop) v w hr => ih y D v w (by omega) hr (by omega))
        clear ih hcut ht
        go_wp2_with fail
        refine (HI.out _ _ _ _ _ _ HT0.out hbt).mono ?_
        rintro e w3 ⟨rfl, hb3⟩
        obtain ⟨k0, k1, k4, k5, kb, kr⟩ := HK.out _ hb3
        obtain ⟨-, -, hs3, -⟩ := Rep.parts kr
        obtain ⟨b, off, rfl, hA3, hc3⟩ := hs3.uncons
        obtain ⟨o1, n1, c1', ca1, cb1, r1⟩ := hc3.nth 1 (p := x) (k := off + 2) rfl rfl
        obtain ⟨o2, n2, c2', ca2, cb2, r2⟩ := hc3.nth 2 (p := y) (k := off + 4) rfl rfl
        have RX := Lib.hid r1
        have RY := Lib.hid r2
        clear c0 c1 hs3 hc3 r1 r2
        obtain ⟨c0, c1⟩ := box_cells k0
        obtain ⟨d0, d1⟩ := box_cells k4
        obtain ⟨e0, e1⟩ := box_cells k5
        have f0 := Lib.frozen_of_heap k4 0
        have f1 := Lib.frozen_of_heap k4 1
        have f2 := Lib.frozen_of_heap k5 0
        have f3 := Lib.frozen_of_heap k5 1
        have l1 : w1.heap.size < w3.heap.size := lt_of_cell d0
        have l2 : w1.heap.size + 1 < w3.heap.size := lt_of_cell e0
        have lb : b < w1.heap.size := by have := hA3.2; omega
        have K1 := Lib.hid k1
        have KB := Lib.hid kb
        have K4 := Lib.hid k4
        have K5 := Lib.hid k5
        clear k0 k1 k4 k5 kb kr
        have ww : w.heap.size < w1.heap.size := by omega
        have ne1 : w.heap.size ≠ w1.heap.size := by omega
        have ne2 : b ≠ w1.heap.size := by omega
        have ne3 : w1.heap.size ≠ w.heap.size := by omega
        have ne4 : w1.heap.size ≠ b := by omega
        go_wp2
        go_region
        all_goals
          go_wp2_with fail
          refine (HX.out (fun z => A z ∧ z < w.heap.size) _ _ (Rep.keep ?_ _ _ RX.out)).mono ?_
          · repeat' first | exact Keeps.refl _ _ | apply Keeps.drew | apply Keeps.setCell
            all_goals
              intro z hz
              have := hz.2
              dsimp only
              omega
          rintro e v1 ⟨ax, ox, lx, cx, rfl, hrx, hbx⟩
          have hBx3 : Below w1.heap.size w3 v1 := by
            refine Below.trans ?_ (hbx.mono ?_)
            · repeat' first | exact Below.refl _ _ | apply Below.drew | refine Below.setCell ?_ ?_ _
              all_goals
                dsimp only
                omega
            · simp only [drew_size, setCell_size]
              omega
          have HBx := Lib.hid (KB.out.trans (hBx3.mono (by omega)))
          have hx5 := (hbx.block (w1.heap.size + 1) (by simp only [drew_size, setCell_size]; omega)).trans (box_set (box_far K5.out (by omega) (.string x.atom) (.slice o1 n1 c1')) (.string y.atom) (.slice o2 n2 c2'))
          have hx1 := (hbx.block (w.heap.size + 1) (by simp only [drew_size, setCell_size]; omega)).trans (box_far (box_far K1.out (by omega) (.string x.atom) (.slice o1 n1 c1')) (by omega) (.string y.atom) (.slice o2 n2 c2'))
          have HX5 := Lib.hid hx5
          have HX1' := Lib.hid hx1
          have HY1 := Lib.hid (Rep.keep (Keeps.below' hBx3 (fun z hz => by have := hz.2; omega)) _ _ RY.out)
          have HRX := Lib.hid (Rep.bound _ _ hrx)
          have p0 : ∀ ob, (v1.alloc ob).cell? ⟨w1.heap.size + 1, 0, none⟩ = some (.string y.atom) := fun ob => (box_cells (box_kept ob hx5)).1
          have p1 : ∀ ob, (v1.alloc ob).cell? ⟨w1.heap.size + 1, 1, none⟩ = some (.slice o2 n2 c2') := fun ob => (box_cells (box_kept ob hx5)).2
          have hzx := hBx3.size
          have hzx2 := hbx.size
          simp only [drew_size, setCell_size] at hzx2
          have ne5 : w1.heap.size + 1 ≠ v1.heap.size := by omega
          have ne6 : v1.heap.size ≠ w1.heap.size + 1 := by omega
          clear hx5 hx1 hBx3 hrx hbx
          go_wp2_with fail
          refine (HY.out (fun z => (A z ∧ z < w.heap.size)) _ _ (Rep.keep ((Keeps.refl _ _).alloc' _) _ _ HY1.out)).mono ?_
          rintro e v2 ⟨ay, oy, ly, cy, rfl, hry, hby⟩
          have hzy := hby.size
          simp only [World.size_alloc] at hzy
          have hv12 : Below v1.heap.size v1 v2 := ((Below.refl _ _).alloc (Nat.le_refl _) _).trans (hby.mono (by simp only [World.size_alloc]; omega))
          have hv1 := (hby.block v1.heap.size (by simp only [World.size_alloc]; omega)).trans (heap_alloc_new _ _)
          have HBy := Lib.hid (HBx.out.trans (hv12.mono HBx.out.size))
          have HY1' := Lib.hid ((hv12.block (w.heap.size + 1) (by omega)).trans HX1'.out)
          have HXR := Lib.hid (Rep.weak (A' := fun z => (A z ∧ z < w.heap.size) ∨ w.heap.size + 2 ≤ z) (fun z hz => by have := hz.1; simp only [drew_size, setCell_size] at this; rcases this with h | h; exact .inl h; right; omega) _ _ (Rep.keep (Keeps.below' hv12 (fun z hz => hz.2)) _ _ HRX.out))
          have HYR := Lib.hid (Rep.weak (A' := fun z => (A z ∧ z < w.heap.size) ∨ w.heap.size + 2 ≤ z) (fun z hz => by simp only [World.size_alloc] at hz; rcases hz with h | h; exact .inl h; right; omega) _ _ hry)
          have q0 : ∀ ob, (v2.alloc ob).cell? ⟨v1.heap.size, 0, none⟩ = some (.string ax) := fun ob => (box_cells (box_kept ob hv1)).1
          have q1 : ∀ ob, (v2.alloc ob).cell? ⟨v1.heap.size, 1, none⟩ = some (.slice ox lx cx) := fun ob => (box_cells (box_kept ob hv1)).2
          have ne7 : v1.heap.size ≠ v2.heap.size := by omega
          have ne8 : v2.heap.size ≠ v1.heap.size := by omega
          clear p0 p1 hv1 hv12 hry hby
          go_wp2_with fail
          refine (headed2 ⟨#[42]⟩ (x := x.src) (y := y.src) (C := fun z => (A z ∧ z < w.heap.size) ∨ w.heap.size + 2 ≤ z) (b := v2.heap.size + 1) (box_new (by rw [World.size_alloc])) (Rep.keep (((Keeps.refl _ _).alloc' _).alloc' _) _ _ HXR.out) (Rep.keep (((Keeps.refl _ _).alloc' _).alloc' _) _ _ HYR.out) (Or.inr (by omega)) (fun z hz => by simp only [World.size_alloc] at hz; right; omega)).mono ?_
          rintro e v3 ⟨ah, oh, lh, ch, rfl, hrh, hbh⟩
          have hzh := hbh.size
          simp only [World.size_alloc] at hzh
          have hv23 : Below v2.heap.size v2 v3 := (((Below.refl _ _).alloc (Nat.le_refl _) _).alloc (by simp only [World.size_alloc]; omega) _).trans (hbh.mono (by simp only [World.size_alloc]; omega))
          have HBh := Lib.hid (HBy.out.trans (hv23.mono HBy.out.size))
          have hg := (hv23.block (w.heap.size + 1) (by omega)).trans HY1'.out
          obtain ⟨g0, g1⟩ := box_cells hg
          have g2 := Lib.frozen_of_heap hg 0
          have g3 := Lib.frozen_of_heap hg 1
          have g4 := lt_of_cell g0
          have HRH := Lib.hid hrh
          clear hg hv23 hrh hbh q0 q1
          cases hxb : x.srcB
          all_goals
            go_wp2
            refine bodyPost_ret (v := .tuple #[.agg #[.string ah, .slice oh lh ch], .bool (Tree.srcB ((Tree.node s [p, x, y])))]) (by simp [results, Try.results40, go_sem, g0, g1, HSB.out, hxb]) rfl ⟨ah, oh, lh, ch, rfl, ?_, ?_⟩
            · rw [HSR.out]
              refine Rep.weak (A := fun z => (A z ∧ z < w.heap.size) ∨ w.heap.size + 2 ≤ z) (fun z hz => by rcases hz with h | h; exact .inl h.1; right; omega) _ _ (Rep.keep ?_ _ _ HRH.out)
              refine ((Keeps.refl _ _).setCell ?_ _).setCell ?_ _
              all_goals
                intro z hz
                dsimp only
                rcases hz with h | h
                · have := h.2; omega
                · omega
            · exact (HBh.out.setCell (by dsimp only; omega) _).setCell (by dsimp only; omega) _
      · have HN : Hid (∀ (q : Tree), q.cut3 = none → q.lone = false → q.src = .node ⟨#[]⟩ [] ∧ q.srcB = false) := fun q h hl => ⟨(src_none h).1.trans (by rw [hl]; rfl), (src_none h).2.1.trans (by rw [hl]; rfl)⟩
        have hlone : (Tree.node s ps).lone = false := by cases ps with | nil => exact absurd rfl hps | cons _ _ => rfl
        go_wp2_with fail
        refine (HI.out _ _ _ _ _ _ HT0.out hb).mono ?_
        rintro e w3 ⟨rfl, hb3⟩
        have HB3 := Lib.hid hb3
        obtain ⟨k0, k1, k4, k5, kb, kr⟩ := HK.out _ hb3
        clear c0 c1
        obtain ⟨c0, c1⟩ := box_cells k0
        have HT3 := Lib.hid kr
        clear k0 k1 k4 k5 kb kr hb3
        go_wp2_with fail
        refine (HI.out _ _ _ _ _ _ HT3.out hb).mono ?_

        rintro e w4 ⟨rfl, hb4⟩
        have HB4 := Lib.hid (HB3.out.trans (hb4.mono HB3.out.size))
        obtain ⟨k0, k1, k4, k5, kb, kr⟩ := HK.out _ HB4.out
        clear c0 c1
        obtain ⟨c0, c1⟩ := box_cells k0

        rcases hsh with ⟨i2, hcut⟩ | ⟨i2, a', p, k, ht, hsh⟩
        · obtain ⟨g0, g1⟩ := box_cells k1
          have g2 := Lib.frozen_of_heap k1 0
          have g3 := Lib.frozen_of_heap k1 1
          have g4 := lt_of_cell g0
          have HSN := HN.out _ hcut hlone
          have HKB := Lib.hid kb
          clear k0 k1 k4 k5 kb kr hcut HN HI HK
          go_wp2
          refine bodyPost_ret (v := .tuple #[.agg #[.string ⟨#[]⟩, .slice none 0 0], .bool false]) (by simp [results, Try.results40, go_sem, g0, g1]) rfl ⟨⟨#[]⟩, none, 0, 0, ?_, ?_, ?_⟩
          · rw [HSN.2]
          · rw [HSN.1]
            simp only [Rep]
            exact ⟨none, 0, 0, rfl, RepS.nil _ _ _, Nat.zero_le _⟩
          · exact (HKB.out.setCell (by dsimp only; omega) _).setCell (by dsimp only; omega) _
        · obtain ⟨rfl, rfl⟩ : s = a' ∧ ps = [p, k] := by cases ht; exact ⟨rfl, rfl⟩
          have hk1 := hb
          simp only [Tree.sz, Tree.szL] at hk1
          obtain ⟨-, -, hs4, -⟩ := Rep.parts kr
          obtain ⟨b, off, rfl, hA1, hc4⟩ := hs4.uncons
          obtain ⟨o1, n1, c1', ca1, cb1, r1⟩ := hc4.nth 1 (p := k) (k := off + 2) rfl rfl
          have RK := Lib.hid r1
          have lb : b < w.heap.size := hA1.2
          clear hs4 hc4 r1 ht hlone hb4
          clear k0 k1 k4 k5 kb kr

          go_wp2_with fail
          refine (HI.out _ _ _ _ _ _ RK.out (by omega)).mono ?_

          rintro e w5 ⟨rfl, hb5⟩
          have HB5 := Lib.hid (HB4.out.trans (hb5.mono HB4.out.size))
          obtain ⟨k0, k1, k4, k5, kb, kr⟩ := HK.out _ HB5.out
          clear c0 c1
          obtain ⟨c0, c1⟩ := box_cells k0
          replace ca1 := (hb5.cell (lt_of_cell ca1)).trans ca1
          replace cb1 := (hb5.cell (lt_of_cell cb1)).trans cb1
          replace RK := Lib.hid (Rep.keep (Keeps.below hb5) _ _ RK.out)

          rcases hsh with ⟨i3, hcut⟩ | ⟨i3, kb', q, c', z, hk, hsh⟩
          · obtain ⟨g0, g1⟩ := box_cells k1
            have g2 := Lib.frozen_of_heap k1 0
            have g3 := Lib.frozen_of_heap k1 1
            have g4 := lt_of_cell g0
            have HSN := HN.out _ hcut rfl
            have HKB := Lib.hid kb
            clear k0 k1 k4 k5 kb kr hcut HN HI HK
            go_wp2
            refine bodyPost_ret (v := .tuple #[.agg #[.string ⟨#[]⟩, .slice none 0 0], .bool false]) (by simp [results, Try.results40, go_sem, g0, g1]) rfl ⟨⟨#[]⟩, none, 0, 0, ?_, ?_, ?_⟩
            · rw [HSN.2]
            · rw [HSN.1]
              simp only [Rep]
              exact ⟨none, 0, 0, rfl, RepS.nil _ _ _, Nat.zero_le _⟩
            · exact (HKB.out.setCell (by dsimp only; omega) _).setCell (by dsimp only; omega) _
          · subst hk
            simp only [Tree.sz, Tree.szL] at hk1
            obtain ⟨-, rfl, hsp, -⟩ := Rep.parts RK.out
            obtain ⟨bk, offk, rfl, hA, hcp⟩ := hsp.uncons
            obtain ⟨o2, n2, c2', ca2, cb2, rr⟩ := hcp.nth 1 (p := c') (k := offk + 2) rfl rfl
            have RC := Lib.hid rr
            clear rr
            have lbk : bk < w.heap.size := hA.2
            clear hsp hcp hA
            clear hb5
            clear k0 k1 k4 k5 kb kr

            go_wp2_with fail
            refine (HI.out _ _ _ _ _ _ RC.out (by omega)).mono ?_

            rintro e w6 ⟨rfl, hb6⟩
            have HB6 := Lib.hid (HB5.out.trans (hb6.mono HB5.out.size))
            obtain ⟨k0, k1, k4, k5, kb, kr⟩ := HK.out _ HB6.out
            clear c0 c1
            obtain ⟨c0, c1⟩ := box_cells k0
            replace ca1 := (hb6.cell (lt_of_cell ca1)).trans ca1
            replace cb1 := (hb6.cell (lt_of_cell cb1)).trans cb1
            replace ca2 := (hb6.cell (lt_of_cell ca2)).trans ca2
            replace cb2 := (hb6.cell (lt_of_cell cb2)).trans cb2
            replace RC := Lib.hid (Rep.keep (Keeps.below hb6) _ _ RC.out)

            rcases hsh with ⟨i4, hcut⟩ | ⟨i4, d, r, m, x, l, hc, hsh⟩
            · obtain ⟨g0, g1⟩ := box_cells k1
              have g2 := Lib.frozen_of_heap k1 0
              have g3 := Lib.frozen_of_heap k1 1
              have g4 := lt_of_cell g0
              have HSN := HN.out _ hcut rfl
              have HKB := Lib.hid kb
              clear k0 k1 k4 k5 kb kr hcut HN HI HK
              go_wp2
              refine bodyPost_ret (v := .tuple #[.agg #[.string ⟨#[]⟩, .slice none 0 0], .bool false]) (by simp [results, Try.results40, go_sem, g0, g1]) rfl ⟨⟨#[]⟩, none, 0, 0, ?_, ?_, ?_⟩
              · rw [HSN.2]
              · rw [HSN.1]
                simp only [Rep]
                exact ⟨none, 0, 0, rfl, RepS.nil _ _ _, Nat.zero_le _⟩
              · exact (HKB.out.setCell (by dsimp only; omega) _).setCell (by dsimp only; omega) _
            · subst hc
              simp only [Tree.sz, Tree.szL] at hk1
              obtain ⟨-, rfl, hsp, -⟩ := Rep.parts RC.out
              obtain ⟨bc, offc, rfl, hA, hcp⟩ := hsp.uncons
              obtain ⟨o3, n3, c3', ca3, cb3, rr⟩ := hcp.nth 2 (p := x) (k := offc + 4) rfl rfl
              have RX := Lib.hid rr
              clear rr
              obtain ⟨o4, n4, c4', ca4, cb4, rr⟩ := hcp.nth 3 (p := l) (k := offc + 6) rfl rfl
              have RL := Lib.hid rr
              clear rr
              have lbc : bc < w.heap.size := hA.2
              clear hsp hcp hA
              clear hb6
              clear k0 k1 k4 k5 kb kr

              have ll1 : w1.heap.size + 2 ≤ w6.heap.size := by have := HB6.out.size; omega
              have ca4a : ∀ ob, (w6.alloc ob).cell? ⟨bc, offc + 6, none⟩ = some (.string l.atom) := fun ob => (((Below.refl w6.heap.size w6).alloc (Nat.le_refl _) ob).cell (lt_of_cell ca4)).trans ca4
              have cb4a : ∀ ob, (w6.alloc ob).cell? ⟨bc, offc + 6 + 1, none⟩ = some (.slice o4 n4 c4') := fun ob => (((Below.refl w6.heap.size w6).alloc (Nat.le_refl _) ob).cell (lt_of_cell cb4)).trans cb4
              have RLA := Lib.hid (fun o1 o2 => Rep.keep (((Keeps.refl _ _).alloc' o1).alloc' o2) _ _ RL.out)
              have HB6A := Lib.hid (fun o1 o2 => (HB6.out.alloc HB6.out.size o1).alloc (by have := HB6.out.size; simp only [World.size_alloc] at this ⊢; omega) o2)
              have bel6 : Hid (∀ o1 o2, Below w6.heap.size w6 ((w6.alloc o1).alloc o2)) := fun o1 o2 => ((Below.refl _ _).alloc (Nat.le_refl _) _).alloc (by simp) _
              go_wp2_with fail
              refine (HI.out _ _ _ _ _ _ (RLA.out _ _) (by omega)).mono ?_
              rintro e w7 ⟨rfl, hb7a⟩
              have hz7 := hb7a.size
              simp only [World.size_alloc] at hz7
              have hb7 : Below w6.heap.size w6 w7 := (bel6.out _ _).trans (hb7a.mono (by simp only [World.size_alloc]; omega))
              have HB7 := Lib.hid ((HB6A.out _ _).trans (hb7a.mono (by have := HB6.out.size; simp only [World.size_alloc] at this ⊢; omega)))
              have kc := (hb7a.block w6.heap.size (by simp only [World.size_alloc]; omega)).trans (box_kept _ (heap_alloc_new w6 _))
              have kl := (hb7a.block (w6.heap.size + 1) (by simp only [World.size_alloc]; omega)).trans (box_new (by rw [World.size_alloc]))
              obtain ⟨k0, k1, k4, k5, kb, kr⟩ := HK.out _ HB7.out
              clear c0 c1 ca1 cb1 ca2 cb2 ca4a cb4a RLA HB6A bel6 hb7a
              obtain ⟨m0, m1⟩ := box_cells kc
              obtain ⟨j0, j1⟩ := box_cells kl
              replace ca3 := (hb7.cell (lt_of_cell ca3)).trans ca3
              replace cb3 := (hb7.cell (lt_of_cell cb3)).trans cb3
              replace ca4 := (hb7.cell (lt_of_cell ca4)).trans ca4
              replace cb4 := (hb7.cell (lt_of_cell cb4)).trans cb4
              replace RX := Lib.hid (Rep.keep (Keeps.below hb7) _ _ RX.out)
              replace RL := Lib.hid (Rep.keep (Keeps.below hb7) _ _ RL.out)

              clear hb7
              rcases hsh with ⟨i5, hcut⟩ | ⟨i5, a2, p2, k2, hl, hsh⟩
              · obtain ⟨g0, g1⟩ := box_cells k1
                have g2 := Lib.frozen_of_heap k1 0
                have g3 := Lib.frozen_of_heap k1 1
                have g4 := lt_of_cell g0
                have HSN := HN.out _ hcut rfl
                have HKB := Lib.hid kb
                clear k0 k1 k4 k5 kb kr hcut HN HI HK
                go_wp2
                refine bodyPost_ret (v := .tuple #[.agg #[.string ⟨#[]⟩, .slice none 0 0], .bool false]) (by simp [results, Try.results40, go_sem, g0, g1]) rfl ⟨⟨#[]⟩, none, 0, 0, ?_, ?_, ?_⟩
                · rw [HSN.2]
                · rw [HSN.1]
                  simp only [Rep]
                  exact ⟨none, 0, 0, rfl, RepS.nil _ _ _, Nat.zero_le _⟩
                · exact (HKB.out.setCell (by dsimp only; omega) _).setCell (by dsimp only; omega) _
              · subst hl
                simp only [Tree.sz, Tree.szL] at hk1
                obtain ⟨-, rfl, hsp, -⟩ := Rep.parts RL.out
                obtain ⟨bl, offl, rfl, hA, hcp⟩ := hsp.uncons
                obtain ⟨o5, n5, c5', ca5, cb5, rr⟩ := hcp.nth 1 (p := k2) (k := offl + 2) rfl rfl
                have RK2 := Lib.hid rr
                clear rr
                have lbl : bl < w.heap.size := hA.2
                clear hsp hcp hA
                clear k0 k1 k4 k5 kb kr

                go_wp2_with fail
                refine (HI.out _ _ _ _ _ _ RK2.out (by omega)).mono ?_

                rintro e w8 ⟨rfl, hb8⟩
                have HB8 := Lib.hid (HB7.out.trans (hb8.mono HB7.out.size))
                obtain ⟨k0, k1, k4, k5, kb, kr⟩ := HK.out _ HB8.out
                replace ca3 := (hb8.cell (lt_of_cell ca3)).trans ca3
                replace cb3 := (hb8.cell (lt_of_cell cb3)).trans cb3
                replace ca5 := (hb8.cell (lt_of_cell ca5)).trans ca5
                replace cb5 := (hb8.cell (lt_of_cell cb5)).trans cb5
                replace RX := Lib.hid (Rep.keep (Keeps.below hb8) _ _ RX.out)
                replace RK2 := Lib.hid (Rep.keep (Keeps.below hb8) _ _ RK2.out)
                clear m0 m1 j0 j1
                replace kc := (hb8.block w6.heap.size (by omega)).trans kc
                replace kl := (hb8.block (w6.heap.size + 1) (by omega)).trans kl
                obtain ⟨m0, m1⟩ := box_cells kc
                obtain ⟨j0, j1⟩ := box_cells kl
                have hz8 := hb8.size

                clear hb8
                rcases hsh with ⟨i6, hcut⟩ | ⟨i6, b2, q2, c2, z2, hk2, hsh⟩
                · obtain ⟨g0, g1⟩ := box_cells k1
                  have g2 := Lib.frozen_of_heap k1 0
                  have g3 := Lib.frozen_of_heap k1 1
                  have g4 := lt_of_cell g0
                  have HSN := HN.out _ hcut rfl
                  have HKB := Lib.hid kb
                  clear k0 k1 k4 k5 kb kr hcut HN HI HK
                  go_wp2
                  refine bodyPost_ret (v := .tuple #[.agg #[.string ⟨#[]⟩, .slice none 0 0], .bool false]) (by simp [results, Try.results40, go_sem, g0, g1]) rfl ⟨⟨#[]⟩, none, 0, 0, ?_, ?_, ?_⟩
                  · rw [HSN.2]
                  · rw [HSN.1]
                    simp only [Rep]
                    exact ⟨none, 0, 0, rfl, RepS.nil _ _ _, Nat.zero_le _⟩
                  · exact (HKB.out.setCell (by dsimp only; omega) _).setCell (by dsimp only; omega) _
                · subst hk2
                  simp only [Tree.sz, Tree.szL] at hk1
                  obtain ⟨-, rfl, hsp, -⟩ := Rep.parts RK2.out
                  obtain ⟨bk2, offk2, rfl, hA, hcp⟩ := hsp.uncons
                  obtain ⟨o6, n6, c6', ca6, cb6, rr⟩ := hcp.nth 1 (p := c2) (k := offk2 + 2) rfl rfl
                  have RC2 := Lib.hid rr
                  clear rr
                  have lbk2 : bk2 < w.heap.size := hA.2
                  clear hsp hcp hA
                  clear k0 k1 k4 k5 kb kr

                  go_wp2_with fail
                  refine (HI.out _ _ _ _ _ _ RC2.out (by omega)).mono ?_

                  rintro e w9 ⟨rfl, hb9⟩
                  have HB9 := Lib.hid (HB8.out.trans (hb9.mono HB8.out.size))
                  obtain ⟨k0, k1, k4, k5, kb, kr⟩ := HK.out _ HB9.out
                  replace ca3 := (hb9.cell (lt_of_cell ca3)).trans ca3
                  replace cb3 := (hb9.cell (lt_of_cell cb3)).trans cb3
                  replace ca5 := (hb9.cell (lt_of_cell ca5)).trans ca5
                  replace cb5 := (hb9.cell (lt_of_cell cb5)).trans cb5
                  replace ca6 := (hb9.cell (lt_of_cell ca6)).trans ca6
                  replace cb6 := (hb9.cell (lt_of_cell cb6)).trans cb6
                  replace RX := Lib.hid (Rep.keep (Keeps.below hb9) _ _ RX.out)
                  replace RC2 := Lib.hid (Rep.keep (Keeps.below hb9) _ _ RC2.out)
                  clear m0 m1 j0 j1
                  replace kc := (hb9.block w6.heap.size (by omega)).trans kc
                  replace kl := (hb9.block (w6.heap.size + 1) (by omega)).trans kl
                  obtain ⟨m0, m1⟩ := box_cells kc
                  obtain ⟨j0, j1⟩ := box_cells kl
                  have hz9 := hb9.size

                  clear hb9
                  rcases hsh with ⟨i7, hcut⟩ | ⟨i7, d2, r2', m2, y, hc2, hcut⟩
                  · obtain ⟨g0, g1⟩ := box_cells k1
                    have g2 := Lib.frozen_of_heap k1 0
                    have g3 := Lib.frozen_of_heap k1 1
                    have g4 := lt_of_cell g0
                    have HSN := HN.out _ hcut rfl
                    have HKB := Lib.hid kb
                    clear k0 k1 k4 k5 kb kr hcut HN HI HK
                    go_wp2
                    refine bodyPost_ret (v := .tuple #[.agg #[.string ⟨#[]⟩, .slice none 0 0], .bool false]) (by simp [results, Try.results40, go_sem, g0, g1]) rfl ⟨⟨#[]⟩, none, 0, 0, ?_, ?_, ?_⟩
                    · rw [HSN.2]
                    · rw [HSN.1]
                      simp only [Rep]
                      exact ⟨none, 0, 0, rfl, RepS.nil _ _ _, Nat.zero_le _⟩
                    · exact (HKB.out.setCell (by dsimp only; omega) _).setCell (by dsimp only; omega) _
                  · subst hc2
                    simp only [Tree.sz, Tree.szL] at hk1
                    have K1 := Lib.hid k1
                    have KB := Lib.hid kb
                    obtain ⟨-, rfl, hsp, -⟩ := Rep.parts RC2.out
                    obtain ⟨bc2, offc2, rfl, hA, hcp⟩ := hsp.uncons
                    obtain ⟨o2, n2, c2', ca2, cb2, rr⟩ := hcp.nth 2 (p := y) (k := offc2 + 4) rfl rfl
                    have RY := Lib.hid rr
                    clear rr
                    have lbc2 : bc2 < w.heap.size := hA.2
                    clear hsp hcp hA

                    have HSR := Lib.hid (src_some hcut).1
                    have HSB := Lib.hid (src_some hcut).2.1
                    simp only [Tree.sz, Tree.szL] at hn
                    have HX := Lib.hid (fun (D : Nat → Prop) v w hr => ih x D v w (by omega) hr (by omega))
                    have HY := Lib.hid (fun (D : Nat → Prop) v w hr => ih y D v w (by omega) hr (by omega))
                    clear ih hcut HN HI HK
                    obtain ⟨d0, d1⟩ := box_cells k4
                    obtain ⟨e0, e1⟩ := box_cells k5
                    have f0 := Lib.frozen_of_heap k4 0
                    have f1 := Lib.frozen_of_heap k4 1
                    have f2 := Lib.frozen_of_heap k5 0
                    have f3 := Lib.frozen_of_heap k5 1
                    have l1 : w1.heap.size < w9.heap.size := lt_of_cell d0
                    have l2 : w1.heap.size + 1 < w9.heap.size := lt_of_cell e0
                    have K4 := Lib.hid k4
                    have K5 := Lib.hid k5
                    clear k0 k1 k4 k5 kb kr kc kl
                    have ww : w.heap.size < w1.heap.size := by omega
                    have na1 : bc ≠ w1.heap.size := by omega
                    have na2 : bl ≠ w1.heap.size := by omega
                    have na3 : bk2 ≠ w1.heap.size := by omega
                    have na4 : bc2 ≠ w1.heap.size := by omega
                    have na5 : w6.heap.size ≠ w1.heap.size := by omega
                    have na6 : w6.heap.size + 1 ≠ w1.heap.size := by omega
                    have na7 : w6.heap.size ≠ w1.heap.size + 1 := by omega
                    have na8 : w6.heap.size ≠ w1.heap.size := by omega
                    have nb1 : w1.heap.size ≠ bc := by omega
                    have nb2 : w1.heap.size ≠ bl := by omega
                    have nb3 : w1.heap.size ≠ bk2 := by omega
                    have nb4 : w1.heap.size ≠ bc2 := by omega
                    have nb5 : w1.heap.size ≠ w6.heap.size := by omega
                    have nb6 : w1.heap.size ≠ w6.heap.size + 1 := by omega
                    have nb7 : w1.heap.size + 1 ≠ w6.heap.size := by omega
                    have lb1 : bc < w1.heap.size := by omega
                    have lb2 : bl < w1.heap.size := by omega
                    have lb3 : bk2 < w1.heap.size := by omega
                    have lb4 : bc2 < w1.heap.size := by omega
                    go_wp2
                    go_region
                    all_goals
                      go_wp2_with fail
                      refine (HX.out (fun z => A z ∧ z < w.heap.size) _ _ (Rep.keep ?_ _ _ RX.out)).mono ?_
                      · repeat' first | exact Keeps.refl _ _ | apply Keeps.drew | apply Keeps.setCell
                        all_goals
                          intro z hz
                          have := hz.2
                          dsimp only
                          omega
                      rintro e v1 ⟨ax, ox, lx, cx, rfl, hrx, hbx⟩
                      have hBx3 : Below w1.heap.size w9 v1 := by
                        refine Below.trans ?_ (hbx.mono ?_)
                        · repeat' first | exact Below.refl _ _ | apply Below.drew | refine Below.setCell ?_ ?_ _
                          all_goals
                            dsimp only
                            omega
                        · simp only [drew_size, setCell_size]
                          omega
                      have HBx := Lib.hid (KB.out.trans (hBx3.mono (by omega)))
                      have hx5 := (hbx.block (w1.heap.size + 1) (by simp only [drew_size, setCell_size]; omega)).trans (box_set (box_far K5.out (by omega) (.string x.atom) (.slice o3 n3 c3')) (.string y.atom) (.slice o2 n2 c2'))
                      have hx1 := (hbx.block (w.heap.size + 1) (by simp only [drew_size, setCell_size]; omega)).trans (box_far (box_far K1.out (by omega) (.string x.atom) (.slice o3 n3 c3')) (by omega) (.string y.atom) (.slice o2 n2 c2'))
                      have HX5 := Lib.hid hx5
                      have HX1' := Lib.hid hx1
                      have HY1 := Lib.hid (Rep.keep (Keeps.below' hBx3 (fun z hz => by have := hz.2; omega)) _ _ RY.out)
                      have HRX := Lib.hid (Rep.bound _ _ hrx)
                      have p0 : ∀ ob, (v1.alloc ob).cell? ⟨w1.heap.size + 1, 0, none⟩ = some (.string y.atom) := fun ob => (box_cells (box_kept ob hx5)).1
                      have p1 : ∀ ob, (v1.alloc ob).cell? ⟨w1.heap.size + 1, 1, none⟩ = some (.slice o2 n2 c2') := fun ob => (box_cells (box_kept ob hx5)).2
                      have hzx := hBx3.size
                      have hzx2 := hbx.size
                      simp only [drew_size, setCell_size] at hzx2
                      have ne5 : w1.heap.size + 1 ≠ v1.heap.size := by omega
                      have ne6 : v1.heap.size ≠ w1.heap.size + 1 := by omega
                      clear hx5 hx1 hBx3 hrx hbx
                      go_wp2_with fail
                      refine (HY.out (fun z => (A z ∧ z < w.heap.size)) _ _ (Rep.keep ((Keeps.refl _ _).alloc' _) _ _ HY1.out)).mono ?_
                      rintro e v2 ⟨ay, oy, ly, cy, rfl, hry, hby⟩
                      have hzy := hby.size
                      simp only [World.size_alloc] at hzy
                      have hv12 : Below v1.heap.size v1 v2 := ((Below.refl _ _).alloc (Nat.le_refl _) _).trans (hby.mono (by simp only [World.size_alloc]; omega))
                      have hv1 := (hby.block v1.heap.size (by simp only [World.size_alloc]; omega)).trans (heap_alloc_new _ _)
                      have HBy := Lib.hid (HBx.out.trans (hv12.mono HBx.out.size))
                      have HY1' := Lib.hid ((hv12.block (w.heap.size + 1) (by omega)).trans HX1'.out)
                      have HXR := Lib.hid (Rep.weak (A' := fun z => (A z ∧ z < w.heap.size) ∨ w.heap.size + 2 ≤ z) (fun z hz => by have := hz.1; simp only [drew_size, setCell_size] at this; rcases this with h | h; exact .inl h; right; omega) _ _ (Rep.keep (Keeps.below' hv12 (fun z hz => hz.2)) _ _ HRX.out))
                      have HYR := Lib.hid (Rep.weak (A' := fun z => (A z ∧ z < w.heap.size) ∨ w.heap.size + 2 ≤ z) (fun z hz => by simp only [World.size_alloc] at hz; rcases hz with h | h; exact .inl h; right; omega) _ _ hry)
                      have q0 : ∀ ob, (v2.alloc ob).cell? ⟨v1.heap.size, 0, none⟩ = some (.string ax) := fun ob => (box_cells (box_kept ob hv1)).1
                      have q1 : ∀ ob, (v2.alloc ob).cell? ⟨v1.heap.size, 1, none⟩ = some (.slice ox lx cx) := fun ob => (box_cells (box_kept ob hv1)).2
                      have ne7 : v1.heap.size ≠ v2.heap.size := by omega
                      have ne8 : v2.heap.size ≠ v1.heap.size := by omega
                      clear p0 p1 hv1 hv12 hry hby
                      go_wp2_with fail
                      refine (headed2 ⟨#[62]⟩ (x := x.src) (y := y.src) (C := fun z => (A z ∧ z < w.heap.size) ∨ w.heap.size + 2 ≤ z) (b := v2.heap.size + 1) (box_new (by rw [World.size_alloc])) (Rep.keep (((Keeps.refl _ _).alloc' _).alloc' _) _ _ HXR.out) (Rep.keep (((Keeps.refl _ _).alloc' _).alloc' _) _ _ HYR.out) (Or.inr (by omega)) (fun z hz => by simp only [World.size_alloc] at hz; right; omega)).mono ?_
                      rintro e v3 ⟨ah, oh, lh, ch, rfl, hrh, hbh⟩
                      have hzh := hbh.size
                      simp only [World.size_alloc] at hzh
                      have hv23 : Below v2.heap.size v2 v3 := (((Below.refl _ _).alloc (Nat.le_refl _) _).alloc (by simp only [World.size_alloc]; omega) _).trans (hbh.mono (by simp only [World.size_alloc]; omega))
                      have HBh := Lib.hid (HBy.out.trans (hv23.mono HBy.out.size))
                      have hg := (hv23.block (w.heap.size + 1) (by omega)).trans HY1'.out
                      obtain ⟨g0, g1⟩ := box_cells hg
                      have g2 := Lib.frozen_of_heap hg 0
                      have g3 := Lib.frozen_of_heap hg 1
                      have g4 := lt_of_cell g0
                      have HRH := Lib.hid hrh
                      clear hg hv23 hrh hbh q0 q1
                      cases hxb : x.srcB
                      all_goals
                        go_wp2
                        refine bodyPost_ret (v := .tuple #[.agg #[.string ah, .slice oh lh ch], .bool (Tree.srcB ((Tree.node s [p, Tree.node kb' [q, Tree.node d [r, m, x, Tree.node a2 [p2, Tree.node b2 [q2, Tree.node d2 [r2', m2, y], z2]]], z]])))]) (by simp [results, Try.results40, go_sem, g0, g1, HSB.out, hxb]) rfl ⟨ah, oh, lh, ch, rfl, ?_, ?_⟩
                        · rw [HSR.out]
                          refine Rep.weak (A := fun z => (A z ∧ z < w.heap.size) ∨ w.heap.size + 2 ≤ z) (fun z hz => by rcases hz with h | h; exact .inl h.1; right; omega) _ _ (Rep.keep ?_ _ _ HRH.out)
                          refine ((Keeps.refl _ _).setCell ?_ _).setCell ?_ _
                          all_goals
                            intro z hz
                            dsimp only
                            rcases hz with h | h
                            · have := h.2; omega
                            · omega
                        · exact (HBh.out.setCell (by dsimp only; omega) _).setCell (by dsimp only; omega) _
end Go.Proofs.Ytcobcmgmleblkaa
