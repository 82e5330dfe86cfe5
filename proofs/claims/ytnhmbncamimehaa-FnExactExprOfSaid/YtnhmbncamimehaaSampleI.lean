/- An expression of a type: the program's form; ExprOf of both. -/
import Derived.Test.YtnhmbncamimehaaSample
import Derived.Lib.BufferMore
namespace Go.Proofs.Ytnhmbncamimehaa
open Go.RowKit

/-- What a function that makes a form hands back, its blocks under C. -/
def MakesR (C : Nat → Prop) (t : Tree) (w : World) (e : Ending) (w' : World) : Prop :=
  ∃ a o l c, e = .returned (.agg #[.string a, .slice o l c]) ∧ Rep w' C t (.agg #[.string a, .slice o l c]) ∧ Below w.heap.size w w'

theorem repS_five {w : World} {C : Nat → Prop} {b : Nat} {x0 x1 y0 y1 z0 z1 u0 u1 v0 v1 : Value} {ty : TypeId} {x y z u v : Tree} (h : w.heap[b]? = some (.cells #[x0, x1, y0, y1, z0, z1, u0, u1, v0, v1] ty (0, 0))) (hC : C b)
    (hx : Rep w C x (.agg #[x0, x1])) (hy : Rep w C y (.agg #[y0, y1])) (hz : Rep w C z (.agg #[z0, z1])) (hu : Rep w C u (.agg #[u0, u1])) (hv : Rep w C v (.agg #[v0, v1])) : RepS w C [x, y, z, u, v] (some ⟨b, 0, none⟩) 5 := by
  have c : ∀ j a, (#[x0, x1, y0, y1, z0, z1, u0, u1, v0, v1] : Array Value)[j]? = some a → w.cell? ⟨b, j, none⟩ = some a := fun j a hv => by simp only [World.cell?, h]; exact hv
  simp only [RepS, RepC]
  exact ⟨b, 0, rfl, rfl, hC, ⟨x0, x1, c 0 _ rfl, c 1 _ rfl, hx⟩, ⟨y0, y1, c 2 _ rfl, c 3 _ rfl, hy⟩, ⟨z0, z1, c 4 _ rfl, c 5 _ rfl, hz⟩, ⟨u0, u1, c 6 _ rfl, c 7 _ rfl, hu⟩, ⟨v0, v1, c 8 _ rfl, c 9 _ rfl, hv⟩, trivial⟩

theorem headedM_any (s : ByteArray) (qs : List Tree) (C : Nat → Prop) (o : Option Addr) (c n : Nat) (w : World) (hn : n = qs.length) (hs : RepS w C qs o n) (hqn : qs ≠ []) (hql : qs.length ≤ 100000000) (hC : ∀ z, w.heap.size ≤ z → C z) :
    Calls Try.prog 89 #[.string s, .slice o n c] w (MakesR C (.node ⟨#[]⟩ (.node s [] :: qs)) w) := by
  subst hn
  refine (headed_any s qs _ o c w (RepS.bound _ _ _ hs) hqn hql (fun b hb => hb.2)).mono ?_
  rintro e w' ⟨a, o', l, c', rfl, hr, hb⟩
  exact ⟨a, o', l, c', rfl, Rep.weak (fun z hz => hz.elim (fun h => h.1) (hC z)) _ _ hr, hb⟩

set_option maxRecDepth 100000 in
set_option maxHeartbeats 3200000 in
theorem sample_any (n : Nat) : ∀ (t : Tree) (A : Nat → Prop) (v : Value) (w : World), t.sz ≤ n → Rep w A t v → t.isType = true → t.sz ≤ 1000000000 →
    Calls Try.prog 65 #[v] w (MakesR (fun z => A z ∨ w.heap.size ≤ z) t.sample w) := by
  induction n with
  | zero => intro t A v w h; cases t; simp [Tree.sz] at h
  | succ n ih =>
    intro t A v w hn hr hty hb
    have hr0 := Rep.bound _ _ hr
    have hln : t.parts.length ≤ 1000000000 := by cases t with | node a ps => have := Tree.length_le_szL ps; simp only [Tree.sz, Tree.parts] at *; omega
    have HHD := Lib.hid (fun v w hr => head_any t (fun z => A z ∧ z < w.heap.size) v w hr hln)
    have HHD : Hid (∀ (D : Nat → Prop) v w, Rep w D t v → Calls Try.prog 50 #[v] w fun e w' => e = .returned (.string t.hd) ∧ Below w.heap.size w w') := fun D v w hr => head_any t D v w hr hln
    obtain ⟨s, ps⟩ := t
    simp only [Rep] at hr
    obtain ⟨o, l, c, rfl, hs, hcap⟩ := hr
    obtain rfl := hs.len
    have bel0 : Below w.heap.size w ((w.alloc (.cells #[.string s, .slice o ps.length c] 46)).alloc (.cells #[.string ⟨#[]⟩, .slice none 0 0] 46)) := ((Below.refl _ _).alloc (Nat.le_refl _) _).alloc (by simp) _
    have hx0 : ((w.alloc (.cells #[.string s, .slice o ps.length c] 46)).alloc (.cells #[.string ⟨#[]⟩, .slice none 0 0] 46)).heap[w.heap.size]? = some (.cells #[.string s, .slice o ps.length c] 46 (0, 0)) := (Lib.alloc_old _ _ _ (by simp)).trans (heap_alloc_new _ _)
    have hx1 : ((w.alloc (.cells #[.string s, .slice o ps.length c] 46)).alloc (.cells #[.string ⟨#[]⟩, .slice none 0 0] 46)).heap[w.heap.size + 1]? = some (.cells #[.string ⟨#[]⟩, .slice none 0 0] 46 (0, 0)) := by
      have h := heap_alloc_new (w.alloc (.cells #[.string s, .slice o ps.length c] 46)) (.cells #[.string ⟨#[]⟩, .slice none 0 0] 46)
      rw [World.size_alloc] at h
      exact h
    have HHW := Lib.hid (HHD.out _ _ _ (Rep.keep (Keeps.below' bel0 (fun z hz => hz.2)) _ _ hr0))
    have HX0 := Lib.hid hx0
    have HX1 := Lib.hid hx1
    have HR0 := Lib.hid hr0
    clear hx0 hx1 hr0 HHD
    rcases isType_cases hty with rfl | ⟨p, x, y, rfl, htx, hty', hp⟩
    · have HT : Hid ((Tree.node s []).sample = .node ⟨#[48]⟩ []) := sample_leaf s
      have HHW' : Hid (Calls Try.prog 50 #[.agg #[.string s, .slice o 0 c]] ((w.alloc (.cells #[.string s, .slice o 0 c] 46)).alloc (.cells #[.string ⟨#[]⟩, .slice none 0 0] 46)) fun e w' => e = .returned (.string ⟨#[]⟩) ∧ Below ((w.alloc (.cells #[.string s, .slice o 0 c] 46)).alloc (.cells #[.string ⟨#[]⟩, .slice none 0 0] 46)).heap.size ((w.alloc (.cells #[.string s, .slice o 0 c] 46)).alloc (.cells #[.string ⟨#[]⟩, .slice none 0 0] 46)) w') := HHW.out
      clear ih hty HHW
      go_enter Try.func65, Try.ntmps65
      go_wp2_with fail
      refine HHW'.out.mono ?_
      rintro e w1 ⟨rfl, hb1⟩
      have hw1 : Below w.heap.size w w1 := bel0.trans (hb1.mono (by simp <;> omega))
      have HZ1 := Lib.hid ((hb1.block (w.heap.size + 1) (by simp)).trans HX1.out)
      go_wp2_with fail
      refine (atomF_any _ _).mono ?_
      rintro e w2 ⟨rfl, hb2⟩
      have hz := (hb2.block (w.heap.size + 1) (Array.getElem?_eq_some_iff.1 HZ1.out).1).trans HZ1.out
      obtain ⟨d0, d1⟩ := box_cells hz
      have f0 := Lib.frozen_of_heap hz 0
      have f1 := Lib.frozen_of_heap hz 1
      have hl2 : w.heap.size + 1 < w2.heap.size := (Array.getElem?_eq_some_iff.1 hz).1
      have hw2 : Below w.heap.size w w2 := hw1.trans (hb2.mono hw1.size)
      clear hz
      go_wp2
      exact bodyPost_ret (v := .agg #[.string ⟨#[48]⟩, .slice none 0 0]) (by simp [results, Try.results65, go_sem, d0, d1]) rfl ⟨⟨#[48]⟩, none, 0, 0, rfl, by rw [HT.out]; exact Rep.leaf _ _ _, (hw2.setCell (by simp) _).setCell (by simp) _⟩
    · obtain ⟨b, off, rfl, hA, hc⟩ := (RepS.bound _ _ _ hs).uncons
      simp only [Tree.sz, Tree.szL] at hn hb
      have HX := Lib.hid (fun (D : Nat → Prop) v w hr => ih x D v w (by omega) hr htx (by omega))
      have HY := Lib.hid (fun (D : Nat → Prop) v w hr => ih y D v w (by omega) hr hty' (by omega))
      have HTG := Lib.hid (sample_three s p x y)
      have HHW' : Hid (Calls Try.prog 50 #[.agg #[.string s, .slice (some ⟨b, off, none⟩) 3 c]] ((w.alloc (.cells #[.string s, .slice (some ⟨b, off, none⟩) 3 c] 46)).alloc (.cells #[.string ⟨#[]⟩, .slice none 0 0] 46)) fun e w' => e = .returned (.string p.atom) ∧ Below ((w.alloc (.cells #[.string s, .slice (some ⟨b, off, none⟩) 3 c] 46)).alloc (.cells #[.string ⟨#[]⟩, .slice none 0 0] 46)).heap.size ((w.alloc (.cells #[.string s, .slice (some ⟨b, off, none⟩) 3 c] 46)).alloc (.cells #[.string ⟨#[]⟩, .slice none 0 0] 46)) w') := HHW.out
      clear ih hty htx hty' HHW
      go_enter Try.func65, Try.ntmps65
      go_wp2_with fail
      refine HHW'.out.mono ?_
      rintro e w1 ⟨rfl, hb1⟩
      have hz1 := hb1.size
      simp only [World.size_alloc] at hz1
      have hq0 := (hb1.block w.heap.size (by simp <;> omega)).trans HX0.out
      obtain ⟨c0, c1⟩ := box_cells hq0
      have hw1 : Below w.heap.size w w1 := bel0.trans (hb1.mono (by simp <;> omega))
      have HRC1 := Lib.hid ((hb1.block (w.heap.size + 1) (by simp)).trans HX1.out)
      have hc1 := RepC.keep (Keeps.below hw1) hA.1 _ _ (RepC.weak (fun b hb => hb.1) _ _ _ hc)
      obtain ⟨o1, n1, c1', ca1, cb1, -⟩ := hc1.nth 1 (p := x) (k := off + 2) rfl rfl
      obtain ⟨o2, n2, c2', ca2, cb2, -⟩ := hc1.nth 2 (p := y) (k := off + 4) rfl rfl
      have hcb := RepC.keep (Keeps.below' hw1 (fun z hz => hz.2)) hA _ _ hc
      obtain ⟨o1', n1', c1'', da1, db1, r1⟩ := hcb.nth 1 (p := x) (k := off + 2) rfl rfl
      obtain ⟨o2', n2', c2'', da2, db2, r2⟩ := hcb.nth 2 (p := y) (k := off + 4) rfl rfl
      obtain ⟨rfl, rfl, rfl⟩ : o1 = o1' ∧ n1 = n1' ∧ c1' = c1'' := by rw [cb1] at db1; simpa using db1
      obtain ⟨rfl, rfl, rfl⟩ : o2 = o2' ∧ n2 = n2' ∧ c2' = c2'' := by rw [cb2] at db2; simpa using db2
      have HS : Hid (∀ w' : World, Below w1.heap.size w1 w' → w'.cell? ⟨w.heap.size, 0, none⟩ = some (.string s) ∧ w'.cell? ⟨w.heap.size, 1, none⟩ = some (.slice (some ⟨b, off, none⟩) 3 c) ∧ w'.cell? ⟨b, off + 2, none⟩ = some (.string x.atom) ∧ w'.cell? ⟨b, off + 2 + 1, none⟩ = some (.slice o1 n1 c1') ∧ w'.cell? ⟨b, off + 4, none⟩ = some (.string y.atom) ∧ w'.cell? ⟨b, off + 4 + 1, none⟩ = some (.slice o2 n2 c2')) :=
        fun w' h => ⟨(h.cell (lt_of_cell c0)).trans c0, (h.cell (lt_of_cell c1)).trans c1, (h.cell (lt_of_cell ca1)).trans ca1, (h.cell (lt_of_cell cb1)).trans cb1, (h.cell (lt_of_cell ca2)).trans ca2, (h.cell (lt_of_cell cb2)).trans cb2⟩
      have hblt : b < w.heap.size := hA.2
      have HSS : Hid (∀ (w' : World) (a1 a2 : Value), Below w1.heap.size w1 w' → (((w'.setCell ⟨w.heap.size + 1, 0, none⟩ a1).setCell ⟨w.heap.size + 1, 1, none⟩ a2).cell? ⟨w.heap.size, 0, none⟩ = some (.string s) ∧ ((w'.setCell ⟨w.heap.size + 1, 0, none⟩ a1).setCell ⟨w.heap.size + 1, 1, none⟩ a2).cell? ⟨w.heap.size, 1, none⟩ = some (.slice (some ⟨b, off, none⟩) 3 c) ∧ ((w'.setCell ⟨w.heap.size + 1, 0, none⟩ a1).setCell ⟨w.heap.size + 1, 1, none⟩ a2).cell? ⟨b, off + 2, none⟩ = some (.string x.atom) ∧ ((w'.setCell ⟨w.heap.size + 1, 0, none⟩ a1).setCell ⟨w.heap.size + 1, 1, none⟩ a2).cell? ⟨b, off + 2 + 1, none⟩ = some (.slice o1 n1 c1') ∧ ((w'.setCell ⟨w.heap.size + 1, 0, none⟩ a1).setCell ⟨w.heap.size + 1, 1, none⟩ a2).cell? ⟨b, off + 4, none⟩ = some (.string y.atom) ∧ ((w'.setCell ⟨w.heap.size + 1, 0, none⟩ a1).setCell ⟨w.heap.size + 1, 1, none⟩ a2).cell? ⟨b, off + 4 + 1, none⟩ = some (.slice o2 n2 c2'))) := by
        intro w' a1 a2 h
        have hb : Below (w.heap.size + 1) w' ((w'.setCell ⟨w.heap.size + 1, 0, none⟩ a1).setCell ⟨w.heap.size + 1, 1, none⟩ a2) := by
          refine Below.setCell (Below.setCell (Below.refl _ _) ?_ _) ?_ _ <;> exact Nat.le_refl (w.heap.size + 1)
        obtain ⟨e1, e2, e3, e4, e5, e6⟩ := HS.out w' h
        exact ⟨(hb.cell (Nat.lt_succ_self _)).trans e1, (hb.cell (Nat.lt_succ_self _)).trans e2, (hb.cell (show b < _ by omega)).trans e3, (hb.cell (show b < _ by omega)).trans e4, (hb.cell (show b < _ by omega)).trans e5, (hb.cell (show b < _ by omega)).trans e6⟩
      have HR1 : Hid (∀ W, Below w1.heap.size w1 W → Rep W (fun z => A z ∧ z < w.heap.size) x (.agg #[.string x.atom, .slice o1 n1 c1'])) := fun W h => Rep.keep (Keeps.below h) _ _ r1
      have HR2 : Hid (∀ W, Below w1.heap.size w1 W → Rep W (fun z => A z ∧ z < w.heap.size) y (.agg #[.string y.atom, .slice o2 n2 c2'])) := fun W h => Rep.keep (Keeps.below h) _ _ r2
      have HAL : Hid (∀ (W : World) (o : Obj), Below w1.heap.size w1 W → Below w1.heap.size w1 (W.alloc o)) := fun W o h => h.alloc h.size o
      have HTR : Hid (∀ (W W' : World), Below w1.heap.size w1 W → Below W.heap.size W W' → Below w1.heap.size w1 W') := fun W W' h h' => h.trans (h'.mono h.size)
      have HTB : Hid (∀ W, Below w1.heap.size w1 W → W.cell? ⟨w.heap.size + 1, 0, none⟩ = some (.string ⟨#[]⟩) ∧ W.cell? ⟨w.heap.size + 1, 1, none⟩ = some (.slice none 0 0) ∧ W.frozen? ⟨w.heap.size + 1, 0, none⟩ = false ∧ W.frozen? ⟨w.heap.size + 1, 1, none⟩ = false ∧ w.heap.size + 1 < W.heap.size) := fun W h => by
        have hz := (h.block (w.heap.size + 1) (Array.getElem?_eq_some_iff.1 HRC1.out).1).trans HRC1.out
        obtain ⟨d0, d1⟩ := box_cells hz
        exact ⟨d0, d1, Lib.frozen_of_heap hz 0, Lib.frozen_of_heap hz 1, (Array.getElem?_eq_some_iff.1 hz).1⟩
      have HWK : Hid (∀ (W : World) (D : Nat → Prop) (u : Tree) (v : Value) (N : Nat), w1.heap.size ≤ N → Rep W (fun z => (A z ∧ z < w.heap.size) ∨ N ≤ z) u v → Rep W (fun z => (A z ∧ z < w.heap.size) ∨ w.heap.size + 2 ≤ z) u v) := fun W D u v N hN h => Rep.weak (fun z hz => hz.imp id (by omega)) _ _ h
      have hbd : Below w1.heap.size w1 w1.drew := (Below.refl _ _).drew
      clear hs hc hc1 hcb hq0 hb1 r1 r2 ca1 cb1 ca2 cb2 da1 da2
      by_cases h42 : p.atom.data.toList = [42]
      · have hq : (p.atom.toList == [42]) = true := by rw [Lib.toList_data, h42]; rfl
        have HT : Hid ((Tree.node s [p, x, y]).sample = .node ⟨#[]⟩ [.node ⟨#[112, 97, 105, 114]⟩ [], x.sample, y.sample]) := by show _ = _; rw [HTG.out, if_pos h42]
        clear h42 HTG hp
        go_wp2_with fail
        go_region_held3 (fun w' => w'.cell? ⟨w.heap.size, 0, none⟩ = some (.string s) ∧ w'.cell? ⟨w.heap.size, 1, none⟩ = some (.slice (some ⟨b, off, none⟩) 3 c) ∧ w'.cell? ⟨b, off + 2, none⟩ = some (.string x.atom) ∧ w'.cell? ⟨b, off + 2 + 1, none⟩ = some (.slice o1 n1 c1') ∧ w'.cell? ⟨b, off + 4, none⟩ = some (.string y.atom) ∧ w'.cell? ⟨b, off + 4 + 1, none⟩ = some (.slice o2 n2 c2'))
          (first | exact HS.out _ (by with_reducible assumption) | exact HS.out _ (HAL.out _ _ hbY) | exact HSS.out _ _ _ hbH)
          (first
            | (go_at_call_of 65 (Tree.atom x); refine (HX.out (fun z => A z ∧ z < w.heap.size) _ _ ?_).mono ?_; (exact HR1.out _ hbd); rintro e w5 ⟨a5, o5, l5, c5, rfl, hr5, hb5⟩; have hbX := HTR.out _ _ hbd hb5; have hrX := HWK.out _ A _ _ w1.heap.size (Nat.le_refl _) hr5)
            | (go_at_call_of 65 (Tree.atom y); refine (HY.out (fun z => A z ∧ z < w.heap.size) _ _ ?_).mono ?_; (exact HR2.out _ hbX); rintro e w6 ⟨a6, o6, l6, c6, rfl, hr6, hb6⟩; have hbY := HTR.out _ _ hbX hb6; have hrY := HWK.out _ A _ _ w5.heap.size hbX.size hr6; have hrX6 := Rep.keep (Keeps.below hb6) _ _ hrX)
            | (go_at_call 89; refine (headedM_any _ [x.sample, y.sample] (fun z => (A z ∧ z < w.heap.size) ∨ w.heap.size + 2 ≤ z) _ 2 2 _ rfl (repS_two (heap_alloc_new w6 _) (Or.inr (by have := hbY.size; omega)) (Rep.keep (Keeps.alloc _ w6 _) _ _ hrX6) (Rep.keep (Keeps.alloc _ w6 _) _ _ hrY)) (by simp) (by simp) (fun z hz => Or.inr (by have h1 := hbY.size; have h2 := (HAL.out _ (.cells #[.string a5, .slice o5 l5 c5, .string a6, .slice o6 l6 c6] 46) hbY).size; omega))).mono ?_; rintro e w7 ⟨a7, o7, l7, c7, rfl, hr7, hb7⟩; have hbH := HTR.out _ _ (HAL.out _ _ hbY) hb7; obtain ⟨k0, k1, k2, k3, k4⟩ := HTB.out _ hbH))
        have hBH := hw1.trans (hbH.mono hw1.size)
        go_wp2
        exact bodyPost_ret (v := .agg #[.string a7, .slice o7 l7 c7]) (by simp [results, Try.results65, go_sem, k0, k1]) rfl ⟨a7, o7, l7, c7, rfl, by
          rw [HT.out]
          refine Rep.weak (fun z hz => ?_) _ _ (Rep.keep (((Keeps.refl _ _).setCell (fun z hz => ?_) _).setCell (fun z hz => ?_) _) _ _ hr7)
          · rcases hz with hz | hz
            · exact .inl hz.1
            · right; omega
          · rcases hz with hz | hz
            · have := hz.2; simp; omega
            · simp; omega
          · rcases hz with hz | hz
            · have := hz.2; simp; omega
            · simp; omega, (hBH.setCell (by simp) _).setCell (by simp) _⟩
      · have h62 : p.atom.data.toList = [62] := hp.resolve_right h42
        have hq : (p.atom.toList == [42]) = false := by rw [Lib.toList_data]; simpa using h42
        have hq2 : (p.atom.toList == [62]) = true := by rw [Lib.toList_data, h62]; rfl
        have HT : Hid ((Tree.node s [p, x, y]).sample = .node ⟨#[]⟩ [.node ⟨#[102, 117, 110]⟩ [], .node ⟨#[102]⟩ [], .node ⟨#[120]⟩ [], x, y, y.sample]) := by show _ = _; rw [HTG.out, if_neg h42]
        have HRX : Hid (∀ W, Below w1.heap.size w1 W → Rep W (fun z => (A z ∧ z < w.heap.size) ∨ w.heap.size + 2 ≤ z) x (.agg #[.string x.atom, .slice o1 n1 c1'])) := fun W h => Rep.weak (fun z hz => .inl hz) _ _ (HR1.out W h)
        have HRY : Hid (∀ W, Below w1.heap.size w1 W → Rep W (fun z => (A z ∧ z < w.heap.size) ∨ w.heap.size + 2 ≤ z) y (.agg #[.string y.atom, .slice o2 n2 c2'])) := fun W h => Rep.weak (fun z hz => .inl hz) _ _ (HR2.out W h)
        clear h42 h62 HTG hp
        go_wp2_with fail
        go_region_held3 (fun w' => w'.cell? ⟨w.heap.size, 0, none⟩ = some (.string s) ∧ w'.cell? ⟨w.heap.size, 1, none⟩ = some (.slice (some ⟨b, off, none⟩) 3 c) ∧ w'.cell? ⟨b, off + 2, none⟩ = some (.string x.atom) ∧ w'.cell? ⟨b, off + 2 + 1, none⟩ = some (.slice o1 n1 c1') ∧ w'.cell? ⟨b, off + 4, none⟩ = some (.string y.atom) ∧ w'.cell? ⟨b, off + 4 + 1, none⟩ = some (.slice o2 n2 c2'))
          (first | exact HS.out _ (by with_reducible assumption) | exact HS.out _ (HAL.out _ _ hbY) | exact HSS.out _ _ _ hbH)
          (first
            | (go_at_call_of 90 (ByteArray.mk #[102]); refine (atomF_any _ _).mono ?_; rintro e w3 ⟨rfl, hb3⟩; have hbF := HTR.out _ _ hbd hb3)
            | (go_at_call_of 90 (ByteArray.mk #[120]); refine (atomF_any _ _).mono ?_; rintro e w4 ⟨rfl, hb4⟩; have hbX := HTR.out _ _ hbF hb4)
            | (go_at_call_of 65 (Tree.atom y); refine (HY.out (fun z => A z ∧ z < w.heap.size) _ _ ?_).mono ?_; (exact HR2.out _ hbX); rintro e w6 ⟨a6, o6, l6, c6, rfl, hr6, hb6⟩; have hbY := HTR.out _ _ hbX hb6; have hrY := HWK.out _ A _ _ w4.heap.size hbX.size hr6)
            | (go_at_call 89; refine (headedM_any _ [.node ⟨#[102]⟩ [], .node ⟨#[120]⟩ [], x, y, y.sample] (fun z => (A z ∧ z < w.heap.size) ∨ w.heap.size + 2 ≤ z) _ 5 5 _ rfl (repS_five (heap_alloc_new w6 _) (Or.inr (by have := hbY.size; omega)) (Rep.leaf _ _ _) (Rep.leaf _ _ _) (HRX.out _ (HAL.out _ _ hbY)) (HRY.out _ (HAL.out _ _ hbY)) (Rep.keep (Keeps.alloc _ w6 _) _ _ hrY)) (by simp) (by simp) (fun z hz => Or.inr (by have h1 := hbY.size; have h2 := World.size_alloc w6 (.cells #[.string ⟨#[102]⟩, .slice none 0 0, .string ⟨#[120]⟩, .slice none 0 0, .string x.atom, .slice o1 n1 c1', .string y.atom, .slice o2 n2 c2', .string a6, .slice o6 l6 c6] 46); omega))).mono ?_; rintro e w7 ⟨a7, o7, l7, c7, rfl, hr7, hb7⟩; have hbH := HTR.out _ _ (HAL.out _ _ hbY) hb7; obtain ⟨k0, k1, k2, k3, k4⟩ := HTB.out _ hbH))
        have hBH := hw1.trans (hbH.mono hw1.size)
        go_wp2
        exact bodyPost_ret (v := .agg #[.string a7, .slice o7 l7 c7]) (by simp [results, Try.results65, go_sem, k0, k1]) rfl ⟨a7, o7, l7, c7, rfl, by
          rw [HT.out]
          refine Rep.weak (fun z hz => ?_) _ _ (Rep.keep (((Keeps.refl _ _).setCell (fun z hz => ?_) _).setCell (fun z hz => ?_) _) _ _ hr7)
          · rcases hz with hz | hz
            · exact .inl hz.1
            · right; omega
          · rcases hz with hz | hz
            · have := hz.2; simp; omega
            · simp; omega
          · rcases hz with hz | hz
            · have := hz.2; simp; omega
            · simp; omega, (hBH.setCell (by simp) _).setCell (by simp) _⟩
end Go.Proofs.Ytnhmbncamimehaa
