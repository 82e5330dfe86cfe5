/- The target type of a type: of the program. -/
import Derived.Test.YtcobcmgmleblkaaTgt
import Derived.Test.YtcobcmgmleblkaaType
import Derived.Deep.RegionHeld3
import Derived.Deep.Cut
import Derived.Deep.CutRange
import Derived.Lib.BufferMore
import Derived.Deep.Heap
namespace Go.Proofs.Ytcobcmgmleblkaa
open Go.RowKit

theorem box_new {W : World} {k : Nat} {o : Obj} (h : k = W.heap.size) : (W.alloc o).heap[k]? = some o := h ▸ heap_alloc_new W o
theorem box_kept {W : World} {k : Nat} {p : Obj} (o : Obj) (h : W.heap[k]? = some p) : (W.alloc o).heap[k]? = some p := (Lib.alloc_old _ _ _ (Array.getElem?_eq_some_iff.1 h).1).trans h
theorem box_set {W : World} {g : Nat} {ty : TypeId} (h : W.heap[g]? = some (.cells #[.string ⟨#[]⟩, .slice none 0 0] ty (0, 0))) (a b : Value) : ((W.setCell ⟨g, 0, none⟩ a).setCell ⟨g, 1, none⟩ b).heap[g]? = some (.cells #[a, b] ty (0, 0)) :=
  Lib.heap_setCell_same (i := 1) (Lib.heap_setCell_same (i := 0) h a) b
theorem box_far {W : World} {g k : Nat} {o : Option Obj} (h : W.heap[k]? = o) (hk : k ≠ g) (a b : Value) : ((W.setCell ⟨g, 0, none⟩ a).setCell ⟨g, 1, none⟩ b).heap[k]? = o :=
  ((Deep.blk_setCell_other _ _ _ _ hk).trans (Deep.blk_setCell_other _ _ _ _ hk)).trans h
theorem drew_size (W : World) : W.drew.heap.size = W.heap.size := rfl
theorem setCell_size (W : World) (a : Addr) (v : Value) : (W.setCell a v).heap.size = W.heap.size := Deep.nblk_setCell W a v
theorem below_alloc {X W : World} (h : Below X.heap.size X W) (o : Obj) : Below X.heap.size X (W.alloc o) := h.alloc h.size o

set_option maxRecDepth 100000 in
set_option maxHeartbeats 20000000 in
theorem target_any (n : Nat) : ∀ (t : Tree) (A : Nat → Prop) (v : Value) (w : World), t.sz ≤ n → Rep w A t v → t.isType = true → t.sz ≤ 1000000000 →
    Calls Try.prog 32 #[v] w (MadeR (fun z => A z ∨ w.heap.size ≤ z) t.tgt w) := by
  induction n with
  | zero => intro t A v w h; cases t; simp [Tree.sz] at h
  | succ n ih =>
    intro t A v w hn hr hty hb
    have hr0 := Rep.bound _ _ hr
    obtain ⟨s, ps⟩ := t
    simp only [Rep] at hr
    obtain ⟨o, l, c, rfl, hs, hcap⟩ := hr
    obtain rfl := hs.len
    have bel0 : Below w.heap.size w ((w.alloc (.cells #[.string s, .slice o ps.length c] 38)).alloc (.cells #[.string ⟨#[]⟩, .slice none 0 0] 38)) := ((Below.refl _ _).alloc (Nat.le_refl _) _).alloc (by simp) _
    have hx0 : ((w.alloc (.cells #[.string s, .slice o ps.length c] 38)).alloc (.cells #[.string ⟨#[]⟩, .slice none 0 0] 38)).heap[w.heap.size]? = some (.cells #[.string s, .slice o ps.length c] 38 (0, 0)) := (Lib.alloc_old _ _ _ (by simp)).trans (heap_alloc_new _ _)
    have hx1 : ((w.alloc (.cells #[.string s, .slice o ps.length c] 38)).alloc (.cells #[.string ⟨#[]⟩, .slice none 0 0] 38)).heap[w.heap.size + 1]? = some (.cells #[.string ⟨#[]⟩, .slice none 0 0] 38 (0, 0)) := by
      have := heap_alloc_new (w.alloc (.cells #[.string s, .slice o ps.length c] 38)) (.cells #[.string ⟨#[]⟩, .slice none 0 0] 38)
      rwa [World.size_alloc] at this
    have HX0 := Lib.hid hx0
    have HX1 := Lib.hid hx1
    have HR0 := Lib.hid hr0
    clear hx0 hx1 hr0
    rcases isType_cases hty with rfl | ⟨p, x, y, rfl, htx, hty', hp⟩
    · have ht : (Tree.node s []).tgt = .node s [] := tgt_leaf s
      rw [ht]
      clear ht ih hty
      go_enter Try.func32, Try.ntmps32
      go_wp2_with fail
      refine (isAtom_any _ _ _ _ _).mono ?_
      rintro e w1 ⟨rfl, hb1⟩
      have hz1 := hb1.size
      simp only [World.size_alloc] at hz1
      obtain ⟨c0, c1⟩ := box_cells ((hb1.block w.heap.size (by simp <;> omega)).trans HX0.out)
      have hr1 := (hb1.block (w.heap.size + 1) (by simp)).trans HX1.out
      obtain ⟨d0, d1⟩ := box_cells hr1
      have f0 := Lib.frozen_of_heap hr1 0
      have f1 := Lib.frozen_of_heap hr1 1
      have hl1 : w.heap.size + 1 < w1.heap.size := by omega
      have hw1 : Below w.heap.size w w1 := bel0.trans (hb1.mono (by simp <;> omega))
      clear hr1 hb1
      go_wp2
      exact bodyPost_ret (v := .agg #[.string s, .slice o ([] : List Tree).length c]) (by simp [results, Try.results32, go_sem, d0, d1]) rfl ⟨s, o, 0, c, rfl, by simp only [Rep]; exact ⟨o, 0, c, rfl, RepS.nil _ _ _, Nat.zero_le _⟩, (hw1.setCell (by simp) _).setCell (by simp) _⟩
    · have hlen : (([p, x, y].length : Int) == 0) = false := by rfl
      obtain ⟨b, off, rfl, hA, hc⟩ := (RepS.bound _ _ _ hs).uncons
      simp only [Tree.sz, Tree.szL] at hn hb
      have HX := Lib.hid (fun (D : Nat → Prop) v w hr => ih x D v w (by omega) hr htx (by omega))
      have HY := Lib.hid (fun (D : Nat → Prop) v w hr => ih y D v w (by omega) hr hty' (by omega))
      have HTG := Lib.hid (tgt_three s p x y)
      clear ih hty htx hty'
      go_enter Try.func32, Try.ntmps32
      go_wp2_with fail
      refine (isAtom_any _ _ _ _ _).mono ?_
      rintro e w1 ⟨rfl, hb1⟩
      have hz1 := hb1.size
      simp only [World.size_alloc] at hz1
      have hq0 := (hb1.block w.heap.size (by simp <;> omega)).trans HX0.out
      obtain ⟨c0, c1⟩ := box_cells hq0
      have hw1 : Below w.heap.size w w1 := bel0.trans (hb1.mono (by simp <;> omega))
      have hrc := (hb1.block (w.heap.size + 1) (by simp)).trans HX1.out
      have HQ0 := Lib.hid hq0
      have HRC := Lib.hid hrc
      have hc1 := RepC.keep (Keeps.below hw1) hA _ _ hc
      obtain ⟨o1, n1, c1', ca1, cb1, r1⟩ := hc1.nth 1 (k := off + 2) rfl rfl
      obtain ⟨o2, n2, c2', ca2, cb2, r2⟩ := hc1.nth 2 (k := off + 4) rfl rfl
      have hS : ∀ w' : World, Below w1.heap.size w1 w' → w'.cell? ⟨w.heap.size, 0, none⟩ = some (.string s) ∧ w'.cell? ⟨w.heap.size, 1, none⟩ = some (.slice (some ⟨b, off, none⟩) 3 c) ∧ w'.cell? ⟨b, off + 2, none⟩ = some (.string x.atom) ∧ w'.cell? ⟨b, off + 2 + 1, none⟩ = some (.slice o1 n1 c1') ∧ w'.cell? ⟨b, off + 4, none⟩ = some (.string y.atom) ∧ w'.cell? ⟨b, off + 4 + 1, none⟩ = some (.slice o2 n2 c2') :=
        fun w' h => ⟨(h.cell (lt_of_cell c0)).trans c0, (h.cell (lt_of_cell c1)).trans c1, (h.cell (lt_of_cell ca1)).trans ca1, (h.cell (lt_of_cell cb1)).trans cb1, (h.cell (lt_of_cell ca2)).trans ca2, (h.cell (lt_of_cell cb2)).trans cb2⟩
      have HS := Lib.hid hS
      clear hS hq0 hrc hb1 hc1
      go_wp2_with fail
      go_cut [3, 4] from 9 to 18 (fun s3 s4 wc => ∃ (b3 b4 : Nat) (ax : ByteArray) (ox : Option Addr) (lx cx : Nat) (ay : ByteArray) (oy : Option Addr) (ly cy : Nat), s3 = .pointer (some ⟨b3, 0, none⟩) ∧ s4 = .pointer (some ⟨b4, 0, none⟩) ∧
          Hid (wc.heap[b3]? = some (.cells #[.string ax, .slice ox lx cx] 38 (0, 0))) ∧ Hid (wc.heap[b4]? = some (.cells #[.string ay, .slice oy ly cy] 38 (0, 0))) ∧
          Hid (Rep wc (fun z => (A z ∧ z < w.heap.size) ∨ w.heap.size + 2 ≤ z) x.tgt (.agg #[.string ax, .slice ox lx cx])) ∧ Hid (Rep wc (fun z => (A z ∧ z < w.heap.size) ∨ w.heap.size + 2 ≤ z) y.tgt (.agg #[.string ay, .slice oy ly cy])) ∧ Hid (Below w1.heap.size w1 wc) ∧ Hid (w1.heap.size ≤ b3 ∧ w1.heap.size ≤ b4))
      case first =>
        have AL : Hid (∀ (W : World) (o : Obj), Below w1.heap.size w1 W → Below w1.heap.size w1 (W.alloc o)) := fun W o h => h.alloc h.size o
        have SC : Hid (∀ (W : World) (g j : Nat) (v : Value), w1.heap.size ≤ g → Below w1.heap.size w1 W → Below w1.heap.size w1 (W.setCell ⟨g, j, none⟩ v)) := fun W g j v hg h => h.setCell hg v
        -- what a call keeps of a box that was laid ahead of it
        have KB : Hid (∀ (W W' : World) (k : Nat), Below W.heap.size W W' → W.heap[k]? = some (.cells #[.string ⟨#[]⟩, .slice none 0 0] 38 (0, 0)) → W'.heap[k]? = some (.cells #[.string ⟨#[]⟩, .slice none 0 0] 38 (0, 0)) ∧ W'.cell? ⟨k, 0, none⟩ = some (.string ⟨#[]⟩) ∧ W'.cell? ⟨k, 1, none⟩ = some (.slice none 0 0) ∧ W'.frozen? ⟨k, 0, none⟩ = false ∧ W'.frozen? ⟨k, 1, none⟩ = false ∧ k < W'.heap.size) := fun W W' k hb hk => by
          have h := (hb.block k (Array.getElem?_eq_some_iff.1 hk).1).trans hk
          exact ⟨h, (box_cells h).1, (box_cells h).2, Lib.frozen_of_heap h 0, Lib.frozen_of_heap h 1, (Array.getElem?_eq_some_iff.1 h).1⟩
        have N1 : Hid (∀ (W : World), (W.alloc (.cells #[.string ⟨#[]⟩, .slice none 0 0] 38)).heap[W.heap.size]? = some (.cells #[.string ⟨#[]⟩, .slice none 0 0] 38 (0, 0))) := fun W => heap_alloc_new W _
        have N2 : Hid (∀ (W : World), ((W.alloc (.cells #[.string ⟨#[]⟩, .slice none 0 0] 38)).alloc (.cells #[.string ⟨#[]⟩, .slice none 0 0] 38)).heap[W.heap.size]? = some (.cells #[.string ⟨#[]⟩, .slice none 0 0] 38 (0, 0)) ∧ ((W.alloc (.cells #[.string ⟨#[]⟩, .slice none 0 0] 38)).alloc (.cells #[.string ⟨#[]⟩, .slice none 0 0] 38)).heap[W.heap.size + 1]? = some (.cells #[.string ⟨#[]⟩, .slice none 0 0] 38 (0, 0))) := fun W => ⟨(Lib.alloc_old _ _ _ (by simp)).trans (heap_alloc_new _ _), by
          have := heap_alloc_new (W.alloc (.cells #[.string ⟨#[]⟩, .slice none 0 0] 38)) (.cells #[.string ⟨#[]⟩, .slice none 0 0] 38)
          rwa [World.size_alloc] at this⟩
        have O1 : Hid (∀ (W : World) (k : Nat), W.heap[k]? = some (.cells #[.string ⟨#[]⟩, .slice none 0 0] 38 (0, 0)) → (W.alloc (.cells #[.string ⟨#[]⟩, .slice none 0 0] 38)).heap[k]? = some (.cells #[.string ⟨#[]⟩, .slice none 0 0] 38 (0, 0))) := fun W k h => (Lib.alloc_old _ _ _ (Array.getElem?_eq_some_iff.1 h).1).trans h
        go_region_held3 (fun w' => w'.cell? ⟨w.heap.size, 0, none⟩ = some (.string s) ∧ w'.cell? ⟨w.heap.size, 1, none⟩ = some (.slice (some ⟨b, off, none⟩) 3 c) ∧ w'.cell? ⟨b, off + 2, none⟩ = some (.string x.atom) ∧ w'.cell? ⟨b, off + 2 + 1, none⟩ = some (.slice o1 n1 c1') ∧ w'.cell? ⟨b, off + 4, none⟩ = some (.string y.atom) ∧ w'.cell? ⟨b, off + 4 + 1, none⟩ = some (.slice o2 n2 c2'))
          (first | with_reducible exact HS.out _ hbwy | with_reducible exact HS.out _ hbwx | (refine HS.out _ ?_; (repeat' (first | with_reducible assumption | with_reducible exact Below.refl _ _ | with_reducible refine Below.drew ?_ | with_reducible refine AL.out _ _ ?_ | with_reducible refine SC.out _ _ _ _ ?_ ?_ | exact Nat.le_refl _ | exact Nat.le_succ _ | exact hbwx.size | exact hbwy.size | exact Nat.le_succ_of_le hbwx.size | exact Nat.le_succ_of_le hbwy.size)); done))
          (first
            | (go_at_call_of 32 (Tree.atom x); refine (HX.out (fun z => A z ∧ z < w.heap.size) _ _ ?_).mono ?_; (exact Rep.keep (Keeps.below (by repeat' (first | with_reducible assumption | with_reducible exact Below.refl _ _ | with_reducible refine Below.drew ?_ | with_reducible refine AL.out _ _ ?_))) _ _ r1); rintro e wx ⟨ax, ox, lx, cx, rfl, hrx, hbx⟩; have hbwx : Below w1.heap.size w1 wx := Below.trans (by repeat' (first | with_reducible assumption | with_reducible exact Below.refl _ _ | with_reducible refine Below.drew ?_ | with_reducible refine AL.out _ _ ?_)) (hbx.mono (by simp <;> omega)); (try (have q1 := KB.out _ wx _ hbx (N1.out w1); obtain ⟨e1, e2, e3, e4, e5, e6⟩ := q1)); (try (have q2 := KB.out _ wx _ hbx (N2.out w1).1; obtain ⟨e1, e2, e3, e4, e5, e6⟩ := q2; have q3 := KB.out _ wx _ hbx (N2.out w1).2; obtain ⟨f1, f2, f3, f4, f5, f6⟩ := q3)))
            | (go_at_call_of 32 (Tree.atom y); refine (HY.out (fun z => A z ∧ z < w.heap.size) _ _ ?_).mono ?_; (exact Rep.keep (Keeps.below (by repeat' (first | with_reducible assumption | with_reducible exact Below.refl _ _ | with_reducible refine Below.drew ?_ | with_reducible refine AL.out _ _ ?_))) _ _ r2); rintro e wy ⟨ay, oy, ly, cy, rfl, hry, hby⟩; have hbwy : Below w1.heap.size w1 wy := Below.trans (by repeat' (first | with_reducible assumption | with_reducible exact Below.refl _ _ | with_reducible refine Below.drew ?_ | with_reducible refine AL.out _ _ ?_)) (hby.mono (by have h9 := hbwx.size; simp <;> omega)); (try (have q4 := KB.out _ wy _ hby (N1.out wx); obtain ⟨g1, g2, g3, g4, g5, g6⟩ := q4)); (try (have q5 := KB.out _ wy _ hby (N2.out wx).1; obtain ⟨g1, g2, g3, g4, g5, g6⟩ := q5; have q6 := KB.out _ wy _ hby (N2.out wx).2; obtain ⟨i1, i2, i3, i4, i5, i6⟩ := q6)); (try (have q7 := KB.out _ wy _ hby e1; obtain ⟨j1, j2, j3, j4, j5, j6⟩ := q7)); (try (have q8 := KB.out _ wy _ hby (O1.out _ _ e1); obtain ⟨j1, j2, j3, j4, j5, j6⟩ := q8)); (try (have q9 := KB.out _ wy _ hby f1; obtain ⟨m1, m2, m3, m4, m5, m6⟩ := q9))))
        all_goals
          go_wp2_with fail
          have z1 := hbx.size
          have z2 := hby.size
          have z3 := hbwx.size
          have z4 := hbwy.size
          have z5 : Below wx.heap.size wx wy := Below.trans (by repeat' (first | with_reducible exact Below.refl _ _ | with_reducible refine Below.drew ?_ | with_reducible refine below_alloc ?_ _)) (hby.mono (by (try simp only [World.size_alloc, drew_size]); omega))
          (try simp only [World.size_alloc, drew_size] at z1 z2)
          go_meet
          case rel =>
            refine ⟨_, _, ax, ox, lx, cx, ay, oy, ly, cy, rfl, rfl, Lib.hid ?_, Lib.hid ?_, Lib.hid ?_, Lib.hid ?_, Lib.hid ?_, Lib.hid ⟨by omega, by omega⟩⟩
            · repeat' (first | with_reducible assumption | with_reducible refine box_set ?_ _ _ | with_reducible refine box_far ?_ (by omega) _ _ | with_reducible exact box_new (by first | rfl | simp only [setCell_size, World.size_alloc]) | with_reducible refine box_kept _ ?_ | refine box_far ?_ (by omega) _ _)
            · repeat' (first | with_reducible assumption | with_reducible refine box_set ?_ _ _ | with_reducible refine box_far ?_ (by omega) _ _ | with_reducible exact box_new (by first | rfl | simp only [setCell_size, World.size_alloc]) | with_reducible refine box_kept _ ?_ | refine box_far ?_ (by omega) _ _)
            · refine Rep.weak (fun z hz => ?_) _ _ (Rep.keep ?_ _ _ (Rep.bound _ _ hrx))
              · obtain ⟨hz | hz, hz'⟩ := hz
                · exact .inl hz
                · (try simp only [World.size_alloc, drew_size] at hz)
                  right; omega
              · repeat' (first | with_reducible exact Keeps.below' z5 (fun z hz => hz.2) | with_reducible refine Keeps.alloc' ?_ _ | with_reducible refine Keeps.setCell ?_ (fun z hz => ?_) _)
                all_goals
                  obtain ⟨hz | hz, hz'⟩ := hz
                  · have := hz.2
                    dsimp only
                    omega
                  · (try simp only [World.size_alloc, drew_size] at hz)
                    dsimp only
                    omega
            · refine Rep.weak (fun z hz => ?_) _ _ (Rep.keep ?_ _ _ (Rep.bound _ _ hry))
              · obtain ⟨hz | hz, hz'⟩ := hz
                · exact .inl hz
                · (try simp only [World.size_alloc, drew_size] at hz)
                  right; omega
              · repeat' (first | with_reducible exact Keeps.refl _ _ | with_reducible refine Keeps.alloc' ?_ _ | with_reducible refine Keeps.setCell ?_ (fun z hz => ?_) _)
                all_goals
                  obtain ⟨hz | hz, hz'⟩ := hz
                  · have := hz.2
                    dsimp only
                    omega
                  · (try simp only [World.size_alloc, drew_size] at hz)
                    dsimp only
                    omega
            · (repeat' (first | with_reducible exact hbwy | with_reducible refine AL.out _ _ ?_ | with_reducible refine SC.out _ _ _ _ ?_ ?_ | omega))
      case rest =>
        obtain ⟨b3, b4, ax, ox, lx, cx, ay, oy, ly, cy, rfl, rfl, hb3, hb4, hrx, hry, hbc, hbb⟩ := hcut
        have hsz := hbc.out.size
        have hq0 := (hbc.out.block w.heap.size (by omega)).trans HQ0.out
        obtain ⟨k0, k1⟩ := box_cells hq0
        have hrc := (hbc.out.block (w.heap.size + 1) (by omega)).trans HRC.out
        have HRC2 := Lib.hid hrc
        have hB : Below w.heap.size w wc := hw1.trans (hbc.out.mono (by omega))
        have HB := Lib.hid hB
        have HHD : Hid (Calls Try.prog 63 #[.agg #[.string s, .slice (some ⟨b, off, none⟩) 3 c]] wc fun e w' => e = .returned (.string p.atom) ∧ Below wc.heap.size wc w') := head_any (.node s [p, x, y]) _ _ wc (Rep.keep (Keeps.below' hB (fun z hz => hz.2)) _ _ HR0.out) (by simp [Tree.parts])
        clear hq0 hrc hB HX HY HS HX0 HX1 bel0
        go_wp2_with fail
        refine HHD.out.mono ?_
        rintro e wd ⟨rfl, hbd⟩
        have hzd := hbd.size
        have hd3 := (hbd.block b3 (Array.getElem?_eq_some_iff.1 hb3.out).1).trans hb3.out
        have hd4 := (hbd.block b4 (Array.getElem?_eq_some_iff.1 hb4.out).1).trans hb4.out
        have hdr := (hbd.block (w.heap.size + 1) (by omega)).trans HRC2.out
        have l3 := (Array.getElem?_eq_some_iff.1 hd3).1
        have l4 := (Array.getElem?_eq_some_iff.1 hd4).1
        have HDX := Lib.hid (Rep.keep (Keeps.below hbd) _ _ hrx.out)
        have HDY := Lib.hid (Rep.keep (Keeps.below hbd) _ _ hry.out)
        have hBd : Below w.heap.size w wd := HB.out.trans (hbd.mono (by omega))
        have HBD := Lib.hid hBd
        obtain ⟨m0, m1⟩ := box_cells hd3
        obtain ⟨n0, n1'⟩ := box_cells hd4
        have HD3 := Lib.hid hd3
        have HD4 := Lib.hid hd4
        have HDR := Lib.hid hdr
        clear hd3 hd4 hdr hBd hbd hb3 hb4 hrx hry HHD
        by_cases h42 : p.atom.data.toList = [42]
        · have hq : (p.atom.toList == [42]) = true := by rw [Lib.toList_data, h42]; rfl
          have HT : Hid ((Tree.node s [p, x, y]).tgt = .node ⟨#[]⟩ [.node ⟨#[116]⟩ [], x.tgt, y.tgt]) := by rw [HTG.out, if_pos h42]; rfl
          clear h42 HTG
          go_wp2_with fail
          refine (headed2 ⟨#[116]⟩ (x := x.tgt) (y := y.tgt) (C := (fun z => (A z ∧ z < w.heap.size) ∨ w.heap.size + 2 ≤ z)) (b := wd.heap.size) (heap_alloc_new wd _) (Rep.keep (Keeps.alloc _ wd _) _ _ HDX.out) (Rep.keep (Keeps.alloc _ wd _) _ _ HDY.out) (Or.inr (by omega)) (fun z hz => by simp only [World.size_alloc] at hz; right; omega)).mono ?_
          rintro e we ⟨a5, o5, l5, c5, rfl, hr5, hb5⟩
          have hz5 := hb5.size
          simp only [World.size_alloc] at hz5
          have hB5 : Below w.heap.size w we := (HBD.out.alloc HBD.out.size _).trans (hb5.mono (by simp only [World.size_alloc]; omega))
          have hre := (hb5.block (w.heap.size + 1) (by simp only [World.size_alloc]; omega)).trans ((Below.heap_alloc wd _ _ (by omega)).trans HDR.out)
          obtain ⟨g0, g1⟩ := box_cells hre
          have g2 := Lib.frozen_of_heap hre 0
          have g3 := Lib.frozen_of_heap hre 1
          have g4 : w.heap.size + 1 < we.heap.size := by omega
          clear hre
          go_wp2
          exact bodyPost_ret (v := .agg #[.string a5, .slice o5 l5 c5]) (by simp [results, Try.results32, go_sem, g0, g1]) rfl ⟨a5, o5, l5, c5, rfl, by
            rw [HT.out]
            refine Rep.weak (fun z hz => ?_) _ _ (Rep.keep (((Keeps.refl _ _).setCell (fun z hz => ?_) _).setCell (fun z hz => ?_) _) _ _ hr5)
            · rcases hz with hz | hz
              · exact .inl hz.1
              · right; omega
            · rcases hz with hz | hz
              · have := hz.2; simp; omega
              · simp; omega
            · rcases hz with hz | hz
              · have := hz.2; simp; omega
              · simp; omega, (hB5.setCell (by simp) _).setCell (by simp) _⟩
        · have hq : (p.atom.toList == [42]) = false := by rw [Lib.toList_data]; simpa using h42
          have HT : Hid ((Tree.node s [p, x, y]).tgt = tgtF x.tgt y.tgt) := by rw [HTG.out, if_neg h42]; rfl
          clear h42 HTG
          go_wp2_with fail
          refine (atomF_any ⟨#[118]⟩ _).mono ?_
          rintro e wv ⟨rfl, hbv⟩
          have hzv := hbv.size
          have hv3 := (hbv.block b3 l3).trans HD3.out
          have hv4 := (hbv.block b4 l4).trans HD4.out
          have hvr := (hbv.block (w.heap.size + 1) (by omega)).trans HDR.out
          have HRX := Lib.hid (Rep.bound _ _ (Rep.keep (Keeps.below hbv) _ _ HDX.out))
          have HRY := Lib.hid (Rep.bound _ _ (Rep.keep (Keeps.below hbv) _ _ HDY.out))
          have hBv : Below w.heap.size w wv := HBD.out.trans (hbv.mono (by omega))
          have HVR := Lib.hid hvr
          have hv := heap_alloc_new wv (.cells #[.string ⟨#[118]⟩, .slice none 0 0] 38)
          have HV := Lib.hid hv
          have hS : ∀ w' : World, Below (wv.heap.size + 1) (wv.alloc (.cells #[.string ⟨#[118]⟩, .slice none 0 0] 38)) w' → w'.cell? ⟨wv.heap.size, 0, none⟩ = some (.string ⟨#[118]⟩) ∧ w'.cell? ⟨wv.heap.size, 1, none⟩ = some (.slice none 0 0) ∧ w'.cell? ⟨b3, 0, none⟩ = some (.string ax) ∧ w'.cell? ⟨b3, 1, none⟩ = some (.slice ox lx cx) ∧ w'.cell? ⟨b4, 0, none⟩ = some (.string ay) ∧ w'.cell? ⟨b4, 1, none⟩ = some (.slice oy ly cy) := fun w' h => by
            obtain ⟨v0, v1⟩ := box_cells ((h.block wv.heap.size (by omega)).trans HV.out)
            obtain ⟨q0, q1⟩ := box_cells ((h.block b3 (by omega)).trans ((Below.heap_alloc wv (.cells #[.string ⟨#[118]⟩, .slice none 0 0] 38) b3 (by omega)).trans hv3))
            obtain ⟨u0, u1⟩ := box_cells ((h.block b4 (by omega)).trans ((Below.heap_alloc wv (.cells #[.string ⟨#[118]⟩, .slice none 0 0] 38) b4 (by omega)).trans hv4))
            exact ⟨v0, v1, q0, q1, u0, u1⟩
          have HS := Lib.hid hS
          have hne := hbb.out
          have hSS : ∀ (w' : World) (j : Nat) (v : Value), (w'.cell? ⟨wv.heap.size, 0, none⟩ = some (.string ⟨#[118]⟩) ∧ w'.cell? ⟨wv.heap.size, 1, none⟩ = some (.slice none 0 0) ∧ w'.cell? ⟨b3, 0, none⟩ = some (.string ax) ∧ w'.cell? ⟨b3, 1, none⟩ = some (.slice ox lx cx) ∧ w'.cell? ⟨b4, 0, none⟩ = some (.string ay) ∧ w'.cell? ⟨b4, 1, none⟩ = some (.slice oy ly cy)) → ((w'.setCell ⟨w.heap.size + 1, j, none⟩ v).cell? ⟨wv.heap.size, 0, none⟩ = some (.string ⟨#[118]⟩) ∧ (w'.setCell ⟨w.heap.size + 1, j, none⟩ v).cell? ⟨wv.heap.size, 1, none⟩ = some (.slice none 0 0) ∧ (w'.setCell ⟨w.heap.size + 1, j, none⟩ v).cell? ⟨b3, 0, none⟩ = some (.string ax) ∧ (w'.setCell ⟨w.heap.size + 1, j, none⟩ v).cell? ⟨b3, 1, none⟩ = some (.slice ox lx cx) ∧ (w'.setCell ⟨w.heap.size + 1, j, none⟩ v).cell? ⟨b4, 0, none⟩ = some (.string ay) ∧ (w'.setCell ⟨w.heap.size + 1, j, none⟩ v).cell? ⟨b4, 1, none⟩ = some (.slice oy ly cy)) := by
            intro w' j v ⟨h1, h2, h3, h4, h5, h6⟩
            refine ⟨?_, ?_, ?_, ?_, ?_, ?_⟩
            · rw [World.cell?_of_block (w := w') (a := ⟨wv.heap.size, 0, none⟩) (Below.heap_setCell _ _ _ _ (by simp; omega))]; exact h1
            · rw [World.cell?_of_block (w := w') (a := ⟨wv.heap.size, 1, none⟩) (Below.heap_setCell _ _ _ _ (by simp; omega))]; exact h2
            · rw [World.cell?_of_block (w := w') (a := ⟨b3, 0, none⟩) (Below.heap_setCell _ _ _ _ (by simp; omega))]; exact h3
            · rw [World.cell?_of_block (w := w') (a := ⟨b3, 1, none⟩) (Below.heap_setCell _ _ _ _ (by simp; omega))]; exact h4
            · rw [World.cell?_of_block (w := w') (a := ⟨b4, 0, none⟩) (Below.heap_setCell _ _ _ _ (by simp; omega))]; exact h5
            · rw [World.cell?_of_block (w := w') (a := ⟨b4, 1, none⟩) (Below.heap_setCell _ _ _ _ (by simp; omega))]; exact h6
          have HSS := Lib.hid hSS
          have hbel2 : Below w.heap.size w (wv.alloc (.cells #[.string ⟨#[118]⟩, .slice none 0 0] 38)) := hBv.alloc hBv.size _
          have HBEL := Lib.hid hbel2
          have HXR : Hid (∀ W, Below (wv.heap.size + 1) (wv.alloc (.cells #[.string ⟨#[118]⟩, .slice none 0 0] 38)) W → Rep W (fun z => (A z ∧ z < w.heap.size) ∨ w.heap.size + 2 ≤ z) x.tgt (.agg #[.string ax, .slice ox lx cx])) := fun W hW =>
            Rep.weak (fun z hz => hz.1) _ _ (Rep.keep (Keeps.below' ((Below.alloc (Below.refl wv.heap.size wv) (Nat.le_refl _) _).trans (hW.mono (by omega))) (fun z hz => hz.2)) _ _ HRX.out)
          have HYR : Hid (∀ W, Below (wv.heap.size + 1) (wv.alloc (.cells #[.string ⟨#[118]⟩, .slice none 0 0] 38)) W → Rep W (fun z => (A z ∧ z < w.heap.size) ∨ w.heap.size + 2 ≤ z) y.tgt (.agg #[.string ay, .slice oy ly cy])) := fun W hW =>
            Rep.weak (fun z hz => hz.1) _ _ (Rep.keep (Keeps.below' ((Below.alloc (Below.refl wv.heap.size wv) (Nat.le_refl _) _).trans (hW.mono (by omega))) (fun z hz => hz.2)) _ _ HRY.out)
          have hC : ∀ z W, Below (wv.heap.size + 1) (wv.alloc (.cells #[.string ⟨#[118]⟩, .slice none 0 0] 38)) W → W.heap.size ≤ z → ((A z ∧ z < w.heap.size) ∨ w.heap.size + 2 ≤ z) := fun z W hW hz => by
            have := hW.size
            simp only [World.size_alloc] at this
            right; omega
          have HCC := Lib.hid hC
          have hbr : ∀ w', Below (wv.heap.size + 1) (wv.alloc (.cells #[.string ⟨#[118]⟩, .slice none 0 0] 38)) w' → wv.heap.size + 1 ≤ w'.heap.size := fun w' h => by have := h.size; simpa using this
          have HBR := Lib.hid hbr
          have hst : ∀ w', Below (wv.heap.size + 1) (wv.alloc (.cells #[.string ⟨#[118]⟩, .slice none 0 0] 38)) w' → w'.heap[w.heap.size + 1]? = some (.cells #[.string ⟨#[]⟩, .slice none 0 0] 38 (0, 0)) := fun w' h => (h.block (w.heap.size + 1) (by omega)).trans ((Below.heap_alloc wv (.cells #[.string ⟨#[118]⟩, .slice none 0 0] 38) _ (by omega)).trans HVR.out)
          have HST := Lib.hid hst
          clear hbv hv3 hv4 hvr hBv hv hS hSS hbel2 hC hbr hst m0 m1 n0 n1' HDX HDY HD3 HD4 HDR HB HRC HRC2 HQ0 hbc
          go_wp2_with fail
          go_region_held3 (fun w' => w'.cell? ⟨wv.heap.size, 0, none⟩ = some (.string ⟨#[118]⟩) ∧ w'.cell? ⟨wv.heap.size, 1, none⟩ = some (.slice none 0 0) ∧ w'.cell? ⟨b3, 0, none⟩ = some (.string ax) ∧ w'.cell? ⟨b3, 1, none⟩ = some (.slice ox lx cx) ∧ w'.cell? ⟨b4, 0, none⟩ = some (.string ay) ∧ w'.cell? ⟨b4, 1, none⟩ = some (.slice oy ly cy))
            (first
              | exact HS.out _ (Below.refl _ _).drew
              | exact HS.out _ hbW4 | exact HS.out _ hbW3 | exact HS.out _ hbW2 | exact HS.out _ hbW5
              | exact HS.out _ (hbW5.alloc (HBR.out _ hbW5) _) | exact HS.out _ (hbW3.alloc (HBR.out _ hbW3) _) | exact HS.out _ (hbW2.alloc (HBR.out _ hbW2) _)
              | exact HSS.out _ _ _ (HSS.out _ _ _ (HS.out _ hbW4)))
            (first
              | (go_at_call_of 35 ay; refine (onward_any y.tgt (fun z => (A z ∧ z < w.heap.size) ∨ w.heap.size + 2 ≤ z) ay oy ly cy _ (HYR.out _ (Below.refl _ _).drew)).mono ?_; rintro e w5 ⟨a5, o5, l5, c5, rfl, hr5, hb5⟩; have hbW5 : Below (wv.heap.size + 1) (wv.alloc (.cells #[.string ⟨#[118]⟩, .slice none 0 0] 38)) w5 := Below.trans (Below.refl _ _).drew (hb5.mono (HBR.out _ (Below.refl _ _).drew)); have hr5c := Rep.weak (fun z hz => hz.elim id (HCC.out z _ (Below.refl _ _).drew)) _ _ hr5; have hbW5a := hbW5.alloc (HBR.out _ hbW5) (.cells #[.string ⟨#[118]⟩, .slice none 0 0, .string ax, .slice ox lx cx, .string a5, .slice o5 l5 c5] 38))
              | (go_at_call_of 64 (ByteArray.mk #[99]); refine (headed3 ⟨#[99]⟩ (x := .node ⟨#[118]⟩ []) (y := x.tgt) (z := onw y.tgt) (C := (fun z => (A z ∧ z < w.heap.size) ∨ w.heap.size + 2 ≤ z)) (b := w5.heap.size) (heap_alloc_new w5 _) (Rep.leaf _ _ _) (HXR.out _ hbW5a) (Rep.keep (Keeps.alloc _ w5 _) _ _ hr5c) (Or.inr (by have := HBR.out _ hbW5; omega)) (fun z hz => HCC.out z _ hbW5a hz)).mono ?_; rintro e w2 ⟨a2, o2, l2, c2, rfl, hr2, hb2⟩; have hbW2 := hbW5a.trans (hb2.mono (HBR.out _ hbW5a)); have hbW2a := hbW2.alloc (HBR.out _ hbW2) (.cells #[.string a2, .slice o2 l2 c2, .string ⟨#[118]⟩, .slice none 0 0] 38))
              | (go_at_call_of 64 (ByteArray.mk #[116]); refine (headed2 ⟨#[116]⟩ (x := .node ⟨#[]⟩ [.node ⟨#[99]⟩ [], .node ⟨#[118]⟩ [], x.tgt, onw y.tgt]) (y := .node ⟨#[118]⟩ []) (C := (fun z => (A z ∧ z < w.heap.size) ∨ w.heap.size + 2 ≤ z)) (b := w2.heap.size) (heap_alloc_new w2 _) (Rep.keep (Keeps.alloc _ w2 _) _ _ hr2) (Rep.leaf _ _ _) (Or.inr (by have := HBR.out _ hbW2; omega)) (fun z hz => HCC.out z _ hbW2a hz)).mono ?_; rintro e w3 ⟨a3, o3, l3, c3, rfl, hr3, hb3⟩; have hbW3 := hbW2a.trans (hb3.mono (HBR.out _ hbW2a)); have hbW3a := hbW3.alloc (HBR.out _ hbW3) (.cells #[.string a3, .slice o3 l3 c3] 38))
              | (go_at_call_of 64 (ByteArray.mk #[101]); refine (headed1 ⟨#[101]⟩ (x := .node ⟨#[]⟩ [.node ⟨#[116]⟩ [], .node ⟨#[]⟩ [.node ⟨#[99]⟩ [], .node ⟨#[118]⟩ [], x.tgt, onw y.tgt], .node ⟨#[118]⟩ []]) (C := (fun z => (A z ∧ z < w.heap.size) ∨ w.heap.size + 2 ≤ z)) (b := w3.heap.size) (heap_alloc_new w3 _) (Rep.keep (Keeps.alloc _ w3 _) _ _ hr3) (Or.inr (by have := HBR.out _ hbW3; omega)) (fun z hz => HCC.out z _ hbW3a hz)).mono ?_; rintro e w4 ⟨a4, o4, l4, c4, rfl, hr4, hb4⟩; have hbW4 := hbW3a.trans (hb4.mono (HBR.out _ hbW3a)); have hrc4 := HST.out _ hbW4; obtain ⟨k0, k1⟩ := box_cells hrc4; have k2 := Lib.frozen_of_heap hrc4 0; have k3 := Lib.frozen_of_heap hrc4 1; have k4 : w.heap.size + 1 < w4.heap.size := (Array.getElem?_eq_some_iff.1 hrc4).1))
          have hB4 : Below w.heap.size w w4 := HBEL.out.trans (hbW4.mono (by omega))
          go_wp2
          exact bodyPost_ret (v := .agg #[.string a4, .slice o4 l4 c4]) (by simp [results, Try.results32, go_sem, k0, k1]) rfl ⟨a4, o4, l4, c4, rfl, by
            rw [HT.out]
            refine Rep.weak (fun z hz => ?_) _ _ (Rep.keep (((Keeps.refl _ _).setCell (fun z hz => ?_) _).setCell (fun z hz => ?_) _) _ _ hr4)
            · rcases hz with hz | hz
              · exact .inl hz.1
              · right; omega
            · rcases hz with hz | hz
              · have := hz.2; simp; omega
              · simp; omega
            · rcases hz with hz | hz
              · have := hz.2; simp; omega
              · simp; omega, (hB4.setCell (by simp) _).setCell (by simp) _⟩
end Go.Proofs.Ytcobcmgmleblkaa
