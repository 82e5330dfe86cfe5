/- A form put for v: of the program. -/
import Derived.Test.YtcobcmgmleblkaaRepl
import Derived.Test.YtcobcmgmleblkaaTgt
namespace Go.Proofs.Ytcobcmgmleblkaa
open Go.RowKit

mutual
/-- A form with another put for v. -/
def Tree.put : Tree → Tree → Tree
  | .node a [], g => if a.data.toList = [118] then g else .node a []
  | .node a (p :: ps), g => if p.atom.data.toList = [101] then .node a (p :: ps) else .node ⟨#[]⟩ (p.put g :: Tree.putL ps g)
def Tree.putL : List Tree → Tree → List Tree
  | [], _ => []
  | p :: ps, g => p.put g :: Tree.putL ps g
end
theorem Tree.putL_map (g : Tree) : ∀ ps, Tree.putL ps g = ps.map (fun p => p.put g)
  | [] => by simp [Tree.putL]
  | p :: ps => by simp [Tree.putL, Tree.putL_map g ps]
theorem Tree.putL_take (g : Tree) (ps : List Tree) (k : Nat) (p : Tree) (h : ps[k]? = some p) : Tree.putL (ps.take (k + 1)) g = Tree.putL (ps.take k) g ++ [p.put g] := by
  rw [Tree.putL_map, Tree.putL_map, List.take_add_one, h]; simp
theorem put_v (g : Tree) {a : ByteArray} (h : a.data.toList = [118]) : (Tree.node a []).put g = g := by simp [Tree.put, h]
theorem put_not (g : Tree) {a : ByteArray} (h : ¬ a.data.toList = [118]) : (Tree.node a []).put g = .node a [] := by simp [Tree.put, h]
theorem put_e (g : Tree) {a : ByteArray} {p : Tree} {ps : List Tree} (h : p.atom.data.toList = [101]) : (Tree.node a (p :: ps)).put g = .node a (p :: ps) := by simp [Tree.put, h]
theorem put_on (g : Tree) {a : ByteArray} {p : Tree} {ps : List Tree} (h : ¬ p.atom.data.toList = [101]) : (Tree.node a (p :: ps)).put g = .node ⟨#[]⟩ (Tree.putL (p :: ps) g) := by simp [Tree.put, Tree.putL, h]

theorem heap3 (w : World) (a b c : Obj) : (((w.alloc a).alloc b).alloc c).heap[w.heap.size]? = some a ∧ (((w.alloc a).alloc b).alloc c).heap[w.heap.size + 1]? = some b ∧ (((w.alloc a).alloc b).alloc c).heap[w.heap.size + 1 + 1]? = some c := by
  refine ⟨?_, ?_, ?_⟩
  · exact (Lib.alloc_old _ _ _ (by simp <;> omega)).trans ((Lib.alloc_old _ _ _ (by simp)).trans (heap_alloc_new _ _))
  · refine (Lib.alloc_old _ _ _ (by simp)).trans ?_
    have := heap_alloc_new (w.alloc a) b
    rwa [World.size_alloc] at this
  · have := heap_alloc_new ((w.alloc a).alloc b) c
    rwa [World.size_alloc, World.size_alloc] at this

set_option maxRecDepth 100000 in
set_option maxHeartbeats 3200000 in
theorem opened_any (g : Tree) (n : Nat) : ∀ (t : Tree) (A D : Nat → Prop) (v : Value) (ga : ByteArray) (go : Option Addr) (gl gc : Nat) (w : World), t.sz ≤ n → Rep w A t v → Rep w D g (.agg #[.string ga, .slice go gl gc]) → (∀ b, A b → b < w.heap.size) → (∀ b, D b → b < w.heap.size) → t.sz ≤ 1000000000 →
    Calls Try.prog 52 #[v, .agg #[.string ga, .slice go gl gc]] w (MadeR (fun z => (A z ∨ D z) ∨ w.heap.size ≤ z) (t.put g) w) := by
  induction n with
  | zero => intro t A D v ga go gl gc w h; cases t; simp [Tree.sz] at h
  | succ n ih =>
    intro t A D v ga go gl gc w hn hr hg hA hD hb
    have HHD := Lib.hid (fun W v hr => head_any t A v W hr (by cases t with | node a ps => have := Tree.length_le_szL ps; simp only [Tree.sz, Tree.parts] at *; omega))
    have HR := Lib.hid (fun W (h : Below w.heap.size w W) => Rep.keep (Keeps.below h) _ _ hr)
    have HG := Lib.hid (fun W (h : Below w.heap.size w W) => Rep.keep (Keeps.below h) _ _ hg)
    obtain ⟨s, ps⟩ := t
    simp only [Rep] at hr
    obtain ⟨o, l, c, rfl, hs, hcap⟩ := hr
    obtain rfl := hs.len
    have bel0 : Below w.heap.size w (((w.alloc (.cells #[.string s, .slice o ps.length c] 38)).alloc (.cells #[.string ga, .slice go gl gc] 38)).alloc (.cells #[.string ⟨#[]⟩, .slice none 0 0] 38)) := (((Below.refl _ _).alloc (Nat.le_refl _) _).alloc (by simp) _).alloc (by simp <;> omega) _
    obtain ⟨q0, q1, q2⟩ := heap3 w (.cells #[.string s, .slice o ps.length c] 38) (.cells #[.string ga, .slice go gl gc] 38) (.cells #[.string ⟨#[]⟩, .slice none 0 0] 38)
    have hz0 : (((w.alloc (.cells #[.string s, .slice o ps.length c] 38)).alloc (.cells #[.string ga, .slice go gl gc] 38)).alloc (.cells #[.string ⟨#[]⟩, .slice none 0 0] 38)).heap.size = w.heap.size + 3 := by simp
    have HK : Hid (∀ W, Below (((w.alloc (.cells #[.string s, .slice o ps.length c] 38)).alloc (.cells #[.string ga, .slice go gl gc] 38)).alloc (.cells #[.string ⟨#[]⟩, .slice none 0 0] 38)).heap.size (((w.alloc (.cells #[.string s, .slice o ps.length c] 38)).alloc (.cells #[.string ga, .slice go gl gc] 38)).alloc (.cells #[.string ⟨#[]⟩, .slice none 0 0] 38)) W → W.heap[w.heap.size]? = some (.cells #[.string s, .slice o ps.length c] 38 (0, 0)) ∧ W.heap[w.heap.size + 1]? = some (.cells #[.string ga, .slice go gl gc] 38 (0, 0)) ∧ W.heap[w.heap.size + 1 + 1]? = some (.cells #[.string ⟨#[]⟩, .slice none 0 0] 38 (0, 0)) ∧ Below w.heap.size w W ∧ w.heap.size + 3 ≤ W.heap.size) := fun W h => by
      have hs := h.size
      rw [hz0] at hs
      exact ⟨(h.block w.heap.size (by rw [hz0]; omega)).trans q0, (h.block (w.heap.size + 1) (by rw [hz0]; omega)).trans q1, (h.block (w.heap.size + 1 + 1) (by rw [hz0]; omega)).trans q2, bel0.trans (h.mono (by rw [hz0]; omega)), hs⟩
    clear q0 q1 q2
    cases ps with
    | nil =>
      clear ih HHD
      by_cases hv : s.data.toList = [118]
      · have hvb : (s.toList == [118]) = true := by rw [Lib.toList_data, hv]; rfl
        rw [put_v g hv]
        clear hv
        go_enter Try.func52, Try.ntmps52
        go_wp2_with fail
        refine (isAtom_any _ _ _ _ _).mono ?_
        rintro e w1 ⟨rfl, hb1⟩
        obtain ⟨k0, k1, k2, kb, kz⟩ := HK.out _ hb1
        obtain ⟨c0, c1⟩ := box_cells k0
        obtain ⟨d0, d1⟩ := box_cells k1
        obtain ⟨e0, e1⟩ := box_cells k2
        have f0 := Lib.frozen_of_heap k2 0
        have f1 := Lib.frozen_of_heap k2 1
        have hl2 : w.heap.size + 1 + 1 < w1.heap.size := by omega
        have KB := Lib.hid kb
        clear hb1 k0 k1 k2 kb
        go_wp2
        exact bodyPost_ret (v := .agg #[.string ga, .slice go gl gc]) (by simp [results, Try.results52, go_sem, e0, e1]) rfl ⟨ga, go, gl, gc, rfl, by
          refine Rep.weak (fun b hb => .inl (.inr hb)) _ _ (Rep.keep (((Keeps.refl _ _).setCell (fun b hb => ?_) _).setCell (fun b hb => ?_) _) _ _ (HG.out _ KB.out)) <;> (have := hD b hb; dsimp only; omega), (KB.out.setCell (by dsimp only; omega) _).setCell (by dsimp only; omega) _⟩
      · have hvb : (s.toList == [118]) = false := by rw [Lib.toList_data]; simpa using hv
        rw [put_not g hv]
        clear hv
        go_enter Try.func52, Try.ntmps52
        go_wp2_with fail
        refine (isAtom_any _ _ _ _ _).mono ?_
        rintro e w1 ⟨rfl, hb1⟩
        obtain ⟨k0, k1, k2, kb, kz⟩ := HK.out _ hb1
        obtain ⟨c0, c1⟩ := box_cells k0
        have HB1 := Lib.hid hb1
        clear hb1 k0 k1 k2 kb
        go_wp2_with fail
        refine (isAtom_any _ _ _ _ _).mono ?_
        rintro e w2 ⟨rfl, hb2⟩
        clear c0 c1
        obtain ⟨k0, k1, k2, kb, kz2⟩ := HK.out _ (HB1.out.trans (hb2.mono HB1.out.size))
        obtain ⟨c0, c1⟩ := box_cells k0
        obtain ⟨e0, e1⟩ := box_cells k2
        have f0 := Lib.frozen_of_heap k2 0
        have f1 := Lib.frozen_of_heap k2 1
        have hl2 : w.heap.size + 1 + 1 < w2.heap.size := by omega
        have KB := Lib.hid kb
        clear hb2 k0 k1 k2 kb
        go_wp2
        exact bodyPost_ret (v := .agg #[.string s, .slice o 0 c]) (by simp [results, Try.results52, go_sem, e0, e1]) rfl ⟨s, o, 0, c, rfl, by simp only [Rep]; exact ⟨o, 0, c, rfl, RepS.nil _ _ _, Nat.zero_le _⟩, (KB.out.setCell (by dsimp only; omega) _).setCell (by dsimp only; omega) _⟩
    | cons p ps =>
      have hlen : (((p :: ps).length : Int) == 0) = false := by simp <;> omega
      by_cases he : p.atom.data.toList = [101]
      · have heb : (p.atom.toList == [101]) = true := by rw [Lib.toList_data, he]; rfl
        rw [put_e g he]
        clear he ih
        go_enter Try.func52, Try.ntmps52
        go_wp2_with fail
        refine (isAtom_any _ _ _ _ _).mono ?_
        rintro e w1 ⟨rfl, hb1⟩
        obtain ⟨k0, k1, k2, kb, kz⟩ := HK.out _ hb1
        obtain ⟨c0, c1⟩ := box_cells k0
        have HB1 := Lib.hid hb1
        clear hb1 k0 k1 k2 kb
        go_wp2_with fail
        refine (isAtom_any _ _ _ _ _).mono ?_
        rintro e w2 ⟨rfl, hb2⟩
        clear c0 c1
        have HB2 := Lib.hid (HB1.out.trans (hb2.mono HB1.out.size))
        obtain ⟨k0, k1, k2, kb, kz2⟩ := HK.out _ HB2.out
        obtain ⟨c0, c1⟩ := box_cells k0
        have HR2 := Lib.hid (HR.out _ kb)
        clear hb2 k0 k1 k2 kb
        go_wp2_with fail
        refine (HHD.out _ _ HR2.out).mono ?_
        rintro e w3 ⟨rfl, hb3⟩
        clear c0 c1
        obtain ⟨k0, k1, k2, kb, kz3⟩ := HK.out _ (HB2.out.trans (hb3.mono HB2.out.size))
        obtain ⟨c0, c1⟩ := box_cells k0
        obtain ⟨e0, e1⟩ := box_cells k2
        have f0 := Lib.frozen_of_heap k2 0
        have f1 := Lib.frozen_of_heap k2 1
        have hl2 : w.heap.size + 1 + 1 < w3.heap.size := by omega
        have KB := Lib.hid kb
        have hhd : (Tree.node s (p :: ps)).hd = p.atom := rfl
        clear hb3 k0 k1 k2 kb
        go_wp2
        exact bodyPost_ret (v := .agg #[.string s, .slice o (p :: ps).length c]) (by simp [results, Try.results52, go_sem, e0, e1]) rfl ⟨s, o, (p :: ps).length, c, rfl, by
          refine Rep.weak (fun b hb => .inl (.inl hb)) _ _ (Rep.keep (((Keeps.refl _ _).setCell (fun b hb => ?_) _).setCell (fun b hb => ?_) _) _ _ (HR.out _ KB.out)) <;> (have := hA b hb; dsimp only; omega), (KB.out.setCell (by dsimp only; omega) _).setCell (by dsimp only; omega) _⟩
      · have heb : (p.atom.toList == [101]) = false := by rw [Lib.toList_data]; simpa using he
        rw [put_on g he]
        clear he
        obtain ⟨i0, hi, hz0', hz1', hz2'⟩ := info_parts info50
        have hl2 := Tree.length_le_szL (p :: ps)
        have hbb := hb
        simp only [Tree.sz] at hb hn
        generalize hqs : p :: ps = qs at *
        have hhd : (Tree.node s qs).hd = p.atom := by rw [← hqs]; rfl
        have HAD : Hid (∀ b, (A b ∨ D b) → b < w.heap.size) := fun b h => h.elim (hA b) (hD b)
        have HDD := Lib.hid hD
        clear hqs hcap hD
        go_enter Try.func52, Try.ntmps52
        go_wp2_with fail
        refine (isAtom_any _ _ _ _ _).mono ?_
        rintro e w1 ⟨rfl, hb1⟩
        obtain ⟨k0, k1, k2, kb, kz⟩ := HK.out _ hb1
        obtain ⟨c0, c1⟩ := box_cells k0
        have HB1 := Lib.hid hb1
        clear hb1 k0 k1 k2 kb
        go_wp2_with fail
        refine (isAtom_any _ _ _ _ _).mono ?_
        rintro e w2 ⟨rfl, hb2⟩
        clear c0 c1
        have HB2 := Lib.hid (HB1.out.trans (hb2.mono HB1.out.size))
        obtain ⟨k0, k1, k2, kb, kz2⟩ := HK.out _ HB2.out
        obtain ⟨c0, c1⟩ := box_cells k0
        have HR2 := Lib.hid (HR.out _ kb)
        clear hb2 k0 k1 k2 kb
        go_wp2_with fail
        refine (HHD.out _ _ HR2.out).mono ?_
        rintro e w3 ⟨rfl, hb3⟩
        clear c0 c1
        have HB3 := Lib.hid (HB2.out.trans (hb3.mono HB2.out.size))
        obtain ⟨k0, k1, k2, kb, kz3⟩ := HK.out _ HB3.out
        obtain ⟨c0, c1⟩ := box_cells k0
        have HK1 := Lib.hid k1
        have HK2 := Lib.hid k2
        have KB := Lib.hid kb
        have hs3 := RepS.keep (Keeps.below kb) _ _ _ hs
        clear hb3 k0 k1 k2 kb HB1 HB2 HB3 HK HR2 bel0 hs hz0
        have hlH : w.heap.size < w3.heap.size := by omega
        have hlG : w.heap.size + 1 < w3.heap.size := by omega
        go_wp2
        go_loopw [29] (fun iv wr => ∃ (L : List Tree) (o1 : Option Addr) (c1 : Nat), Hid (L = Tree.putL (qs.take L.length) g) ∧ L.length ≤ qs.length ∧ iv = .int .i64 L.length ∧ Hid (wr.heap[w3.heap.size]? = some (.cells #[.string ⟨#[]⟩, .slice o1 L.length c1] 38 (0, 0))) ∧ Hid (URow wr (w3.heap.size + 1) (fun b => A b ∨ D b) 38 (.slice o1 L.length c1) L) ∧ Below w3.heap.size w3 wr) (fun iv _ => qs.length - (intOf iv).toNat)
        case atStart => exact ⟨[], none, 0, rfl, Nat.zero_le _, rfl, heap_alloc_new _ _, URow.nil _ _ _ _, (Below.refl _ _).alloc (Nat.le_refl _) _⟩
        case round =>
          obtain ⟨L, o1, cc, HL, hk, rfl, HO, HU, hbr⟩ := hrel
          have hlO : w3.heap.size < wr.heap.size := (Array.getElem?_eq_some_iff.1 HO.out).1
          have HBW := Lib.hid (KB.out.trans (hbr.mono (by omega)))
          by_cases hlt : L.length < qs.length
          · obtain ⟨p, hp⟩ : ∃ p, qs[L.length]? = some p := ⟨qs[L.length], by simp [hlt]⟩
            obtain ⟨b, off, o', n', c', rfl, -, hx, hy, hrp⟩ := (RepS.keep (Keeps.below hbr) _ _ _ hs3).partAt hp
            have HT : Hid (Tree.putL (qs.take (L.length + 1)) g = L ++ [p.put g]) := by show _ = _; rw [Tree.putL_take g qs L.length p hp, ← HL.out]
            have h3 : p.sz ≤ n := by have := Tree.sz_part qs L.length p hp; omega
            have h4 : p.sz ≤ 1000000000 := by have := Tree.sz_part qs L.length p hp; omega
            have bel1 : Below wr.heap.size wr (wr.alloc (.cells #[.string p.atom, .slice o' n' c'] 38)) := (Below.refl _ _).alloc (Nat.le_refl _) _
            have hb1r := hbr.trans (bel1.mono hbr.size)
            have hO1 := (bel1.block w3.heap.size hlO).trans HO.out
            obtain ⟨d0, d1⟩ := box_cells HO.out
            have hg1 := (hbr.block (w.heap.size + 1) hlG).trans HK1.out
            obtain ⟨y0, y1⟩ := box_cells hg1
            have HO1 := Lib.hid hO1
            have HU1 := Lib.hid (HU.out.alloc (.cells #[.string p.atom, .slice o' n' c'] 38))
            have HC : Hid (∀ W, Below (wr.heap.size + 1) (wr.alloc (.cells #[.string p.atom, .slice o' n' c'] 38)) W → Calls Try.prog 52 #[.agg #[.string p.atom, .slice o' n' c'], .agg #[.string ga, .slice go gl gc]] W
                (fun e w' => ∃ a'' o'' l'' c'', e = .returned (.agg #[.string a'', .slice o'' l'' c'']) ∧ Hid (Rep w' (fun b => ((A b ∨ D b) ∨ w3.heap.size + 1 ≤ b) ∧ b < w'.heap.size ∧ (Value.slice o1 L.length cc).ownBlock ≠ some b) (p.put g) (.agg #[.string a'', .slice o'' l'' c''])) ∧ Hid (URow w' (w3.heap.size + 1) (fun b => A b ∨ D b) 38 (.slice o1 L.length cc) L) ∧
                  Hid (w'.heap[w3.heap.size]? = some (.cells #[.string ⟨#[]⟩, .slice o1 L.length cc] 38 (0, 0))) ∧ Below w3.heap.size w3 w' ∧ w3.heap.size < w'.heap.size)) := by
              intro W hW
              have hWs := hW.size
              simp only [World.size_alloc] at hWs
              have hW1 : Below wr.heap.size wr W := bel1.trans (hW.mono (by omega))
              refine (ih p A D (.agg #[.string p.atom, .slice o' n' c']) ga go gl gc W h3 (Rep.keep (Keeps.below hW1) _ _ hrp) (HG.out _ (HBW.out.trans (hW1.mono HBW.out.size))) (fun b h => by have := HAD.out b (.inl h); omega) (fun b h => by have := HAD.out b (.inr h); omega) h4).mono ?_
              rintro e w' ⟨a'', o'', l'', c'', rfl, hr, hb⟩
              have hbb := hW.trans (hb.mono hWs)
              have hzz := hb.size
              refine ⟨a'', o'', l'', c'', rfl, Rep.weak (fun b hb => ⟨hb.1.imp id (by omega), hb.2, fun e => ?_⟩) _ _ (Rep.bound _ _ hr), HU1.out.below (by simpa using hbb), (hbb.block _ (by omega)).trans HO1.out, hb1r.trans (hbb.mono (by omega)), by omega⟩
              have h5 := HU.out.ownLt e
              rcases hb.1 with h6 | h6
              · have := HAD.out b h6; omega
              · omega
            clear hO1 hp hrp h3 h4 ih hg1
            have hLn : L.length ≤ 1000000000 := by omega
            have hwr1 : w3.heap.size < wr.heap.size + 1 := by omega
            have hwr2 : w.heap.size + 1 < wr.heap.size := by omega
            have ne2 : wr.heap.size ≠ w.heap.size + 1 := by omega
            have ne3 : w.heap.size + 1 ≠ wr.heap.size := by omega
            go_wp2_with fail
            go_region_law (first
              | (refine step_append_utree (by rfl) (.tmp 34) (.tmp 38) 36 (by rfl) (w3.heap.size + 1) (fun b => A b ∨ D b) 38 i0 _ 40 Try.underlying36 hi hz0' hz1' hz2' rfl (by decide) (.slice o1 L.length cc) (by rfl) L (by first | exact HU2.out.alloc _ | exact (HU2.out.alloc _).drew) w2.heap.size 0 1 (by rfl) (p.put g) (.string a'') (.slice o'' l'' c'') (two_new w2 _ _ _).1 (two_new w2 _ _ _).2 rfl rfl (A := fun b => ((A b ∨ D b) ∨ w3.heap.size + 1 ≤ b) ∧ b < w2.heap.size ∧ (Value.slice o1 L.length cc).ownBlock ≠ some b) (Rep.keep (Keeps.alloc _ w2 (.cells #[.string a'', .slice o'' l'' c''] 38)) _ _ HR2.out) (fun b hb => ⟨hb.1, by have := hb.2.1; simp; omega, hb.2.2⟩) hLn (by simp; omega) ?_; intro g' cap w4 HU3 hb3; have hO3 := (hb3.block w3.heap.size (by omega)).trans ((Below.heap_alloc w2 (.cells #[.string a'', .slice o'' l'' c''] 38) _ hl2').trans HO2.out); obtain ⟨k0, k1⟩ := box_cells hO3; have k2 := Lib.frozen_of_heap hO3 1; have k3 : w3.heap.size < w4.heap.size := Nat.lt_of_lt_of_le (Nat.lt_succ_of_lt hl2') (by simpa using hb3.size); have HO3 := Lib.hid hO3; clear hO3; have HU3' := Lib.hid HU3; clear HU3)
              | (go_simp; go_wp2_with (go_at_call 52; refine (HC.out _ ?_).mono ?_; (first | exact (Below.refl _ _) | exact (Below.refl _ _).drew); rintro e w2 ⟨a'', o'', l'', c'', rfl, HR2, HU2, HO2, hb2, hl2'⟩; obtain ⟨g0, g1⟩ := box_cells HO2.out)))
            all_goals
              have hO4 := heap_setCell_same w4 w3.heap.size 1 _ _ (.slice (some ⟨g', 0, none⟩) (L.length + 1) cap) HO3.out
              have hbr4 : Below w3.heap.size w3 (w4.setCell ⟨w3.heap.size, 1, none⟩ (.slice (some ⟨g', 0, none⟩) (L.length + 1) cap)) := ((hb2.alloc (Nat.le_of_lt (by omega)) (.cells #[.string a'', .slice o'' l'' c''] 38)).trans (hb3.mono (by omega))).setCell (by simp) _
              have hU4 := HU3'.out.setCell (a := ⟨w3.heap.size, 1, none⟩) (by simp) (fun h => by have := HAD.out _ h; simp at this; omega) (.slice (some ⟨g', 0, none⟩) (L.length + 1) cap)
              have HO4 := Lib.hid hO4
              have HU4 := Lib.hid hU4
              have HB4 := Lib.hid hbr4
              have HLT : Hid (L ++ [p.put g] = Tree.putL (qs.take (L ++ [p.put g]).length) g) := by show _ = _; rw [List.length_append, List.length_singleton, HT.out]
              clear hO4 hU4 hbr4 HO3 HU3' hb3 HU2 HR2 HC
              go_wp2
              go_roundw
              case rel => exact ⟨L ++ [p.put g], some ⟨g', 0, none⟩, cap, HLT, by simp; omega, by simp, by simpa using HO4, by simpa using HU4, HB4.out⟩
              case measure => simp [intOf]; omega
          · have HF : Hid (L = Tree.putL qs g) := by
              have := HL.out
              rwa [List.take_of_length_le (by omega)] at this
            have hr3 := (hbr.block (w.heap.size + 1 + 1) (by omega)).trans HK2.out
            obtain ⟨d0, d1⟩ := box_cells hr3
            have f0 := Lib.frozen_of_heap hr3 0
            have f1 := Lib.frozen_of_heap hr3 1
            have hlr : w.heap.size + 1 + 1 < wr.heap.size := by omega
            obtain ⟨e0, e1⟩ := box_cells HO.out
            clear hr3
            go_wp2
            exact bodyPost_ret (v := .agg #[.string ⟨#[]⟩, .slice o1 L.length cc]) (by simp [results, Try.results52, go_sem, d0, d1]) rfl ⟨⟨#[]⟩, o1, L.length, cc, rfl, by
              rw [← HF.out]
              refine Rep.weak (fun b hb => ?_) _ _ (Rep.keep (((Keeps.refl _ _).setCell (fun b hb => ?_) _).setCell (fun b hb => ?_) _) _ _ (HU.out.rep ⟨#[]⟩))
              · rcases hb with hb | hb
                · exact .inl hb
                · right; omega
              · rcases hb with hb | hb
                · have := HAD.out b hb; dsimp only; omega
                · dsimp only; omega
              · rcases hb with hb | hb
                · have := HAD.out b hb; dsimp only; omega
                · dsimp only; omega, (HBW.out.setCell (by dsimp only; omega) _).setCell (by dsimp only; omega) _⟩
end Go.Proofs.Ytcobcmgmleblkaa
