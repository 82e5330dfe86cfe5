/- The target type of a type, and the type of what goes on: of the program and of the reference. -/
import Derived.Test.YtcobcmgmleblkaaHead
import Derived.Test.YtcobcmgmleblkaaTMake
import Derived.Deep.RegionHeld3
import Derived.Deep.Cut
import Derived.Deep.CutRange
namespace Go.Proofs.Ytcobcmgmleblkaa
open Go.RowKit

/-- The type of what goes on with a value of a target type. -/
def onw (t : Tree) : Tree := .node ⟨#[]⟩ [.node ⟨#[101]⟩ [], .node ⟨#[]⟩ [.node ⟨#[116]⟩ [], .node ⟨#[]⟩ [.node ⟨#[99]⟩ [], .node ⟨#[118]⟩ [], t], .node ⟨#[118]⟩ []]]

/-- The target type of a type of functions, of both target types. -/
def tgtF (x y : Tree) : Tree := .node ⟨#[]⟩ [.node ⟨#[101]⟩ [], .node ⟨#[]⟩ [.node ⟨#[116]⟩ [], .node ⟨#[]⟩ [.node ⟨#[99]⟩ [], .node ⟨#[118]⟩ [], x, onw y], .node ⟨#[118]⟩ []]]

/-- The target type of a type. -/
def Tree.tgt : Tree → Tree
  | .node _ [p, x, y] => if p.atom.data.toList = [42] then .node ⟨#[]⟩ [.node ⟨#[116]⟩ [], x.tgt, y.tgt] else tgtF x.tgt y.tgt
  | t => t

theorem onw_text (t : Tree) : (onw t).text = [40, 101, 32, 40, 116, 32, 40, 99, 32, 118, 32] ++ (t.text ++ [41, 32, 118, 41, 41]) := by simp [onw, Tree.text, textL_cons]
theorem tgtF_text (x y : Tree) : (tgtF x y).text = [40, 101, 32, 40, 116, 32, 40, 99, 32, 118, 32] ++ (x.text ++ (32 :: ((onw y).text ++ [41, 32, 118, 41, 41]))) := by simp [tgtF, Tree.text, textL_cons]
theorem tgtP_text (x y : Tree) : (Tree.node ⟨#[]⟩ [.node ⟨#[116]⟩ [], x, y]).text = [40, 116, 32] ++ (x.text ++ (32 :: (y.text ++ [41]))) := by simp [Tree.text, textL_cons]

theorem tgt_leaf (a : ByteArray) : (Tree.node a []).tgt = .node a [] := rfl
theorem tgt_three (a : ByteArray) (p x y : Tree) : (Tree.node a [p, x, y]).tgt = if p.atom.data.toList = [42] then .node ⟨#[]⟩ [.node ⟨#[116]⟩ [], x.tgt, y.tgt] else tgtF x.tgt y.tgt := by simp only [Tree.tgt]

theorem leaf_good (c : UInt8) (h : atomB c = true) : (Tree.node ⟨#[c]⟩ []).good = true := by simp [Tree.good, h]
theorem onw_good {t : Tree} (h : t.good = true) : (onw t).good = true := by
  simp only [onw, Tree.good, Tree.goodL, h]; rfl
theorem tgtF_good {x y : Tree} (hx : x.good = true) (hy : y.good = true) : (tgtF x y).good = true := by
  simp only [tgtF, Tree.good, Tree.goodL, hx, onw_good hy]; rfl
theorem tgtP_good {x y : Tree} (hx : x.good = true) (hy : y.good = true) : (Tree.node ⟨#[]⟩ [.node ⟨#[116]⟩ [], x, y]).good = true := by
  simp only [Tree.good, Tree.goodL, hx, hy]; rfl

theorem tgt_facts (n : Nat) : ∀ t : Tree, t.sz ≤ n → t.good = true → t.isType = true → t.tgt.good = true ∧ t.tgt.text.length ≤ 40 * t.size ∧ t.tgt.sz ≤ 30 * t.size := by
  induction n with
  | zero => intro t h; cases t; simp [Tree.sz] at h
  | succ n ih =>
    intro t hn hg ht
    obtain ⟨a, ps⟩ := t
    rcases isType_cases ht with rfl | ⟨p, x, y, rfl, hx, hy, hp⟩
    · simp only [Tree.isType, decide_eq_true_eq] at ht
      rw [tgt_leaf]
      refine ⟨hg, by rw [text_leaf, ht]; simp [Tree.size], by simp [Tree.sz, Tree.szL, Tree.size]⟩
    · simp only [Tree.sz, Tree.szL] at hn
      have hgl := (Tree.good_parts hg).1
      simp only [Tree.goodL, Bool.and_eq_true, and_true] at hgl
      obtain ⟨x1, x2, x3⟩ := ih x (by omega) hgl.2.1 hx
      obtain ⟨y1, y2, y3⟩ := ih y (by omega) hgl.2.2 hy
      have hpl := leaf_of_atom hgl.1 (by rcases hp with h | h <;> rw [h] <;> simp)
      have hps : p.size = 1 := by rw [hpl]; simp [Tree.size]
      have h2 : (Tree.node a [p, x, y]).size = 1 + x.size + y.size := by simp [Tree.size, Tree.sizeL, hps]; omega
      rw [tgt_three, h2]
      by_cases h42 : p.atom.data.toList = [42]
      · rw [if_pos h42]
        refine ⟨tgtP_good x1 y1, by rw [tgtP_text]; simp; omega, by simp [Tree.sz, Tree.szL]; omega⟩
      · rw [if_neg h42]
        refine ⟨tgtF_good x1 y1, by rw [tgtF_text, onw_text]; simp; omega, by simp [tgtF, onw, Tree.sz, Tree.szL]; omega⟩

theorem typed_tgt {s : List UInt8} {t : Tree} (h : ptype s = some t) : t.tgt.good = true ∧ t.tgt.text.length ≤ 640 ∧ t.tgt.sz ≤ 480 := by
  obtain ⟨hg, hty, hz, -, -⟩ := ptype_facts h
  obtain ⟨h1, h2, h3⟩ := tgt_facts _ t (Nat.le_refl _) hg hty
  exact ⟨h1, by omega, by omega⟩

theorem l6tNext_any (t : Tree) (w : World) (hl : t.text.length ≤ 100000000) : Calls Try.prog 34 #[.string t.txt] w fun e w' => e = .returned (.string (onw t).txt) ∧ w = w' := by
  have hs : t.txt.size ≤ 100000000 := by rw [Tree.txt, bts_size]; exact hl
  have HT : Hid (ByteArray.mk #[40, 101, 32, 40, 116, 32, 40, 99, 32, 118, 32] ++ t.txt ++ ByteArray.mk #[41, 32, 118, 41, 41] = (onw t).txt) := by
    refine bts_eq ?_
    rw [onw_text, data_add, data_add, Tree.txt, bts_data]
    simp
  generalize t.txt = T at *
  go_enter Try.func34, Try.ntmps34
  go_wp2
  go_ret
  exact ⟨congrArg (fun x => Ending.returned (.string x)) HT.out, rfl⟩

set_option maxRecDepth 100000 in
set_option maxHeartbeats 1600000 in
theorem l6tOf_any (n : Nat) : ∀ (t : Tree) (A : Nat → Prop) (v : Value) (w : World), t.sz ≤ n → Rep w A t v → t.good = true → t.isType = true → t.size ≤ 1000 →
    Calls Try.prog 62 #[v] w fun e w' => e = .returned (.string t.tgt.txt) ∧ Below w.heap.size w w' := by
  induction n with
  | zero => intro t A v w h; cases t; simp [Tree.sz] at h
  | succ n ih =>
    intro t A v w hn hr hgood hty hsz
    have hft := tgt_facts _ t (Nat.le_refl _) hgood hty
    obtain ⟨s, ps⟩ := t
    simp only [Rep] at hr
    obtain ⟨o, l, c, rfl, hs, hcap⟩ := hr
    obtain rfl := hs.len
    have hge := (Tree.good_parts hgood).2
    have hB0 : Below w.heap.size w (w.alloc (.cells #[.string s, .slice o ps.length c] 46)) := (Below.refl _ _).alloc (Nat.le_refl _) _
    rcases isType_cases hty with rfl | ⟨p, x, y, rfl, htx, hty', hp⟩
    · have hemp : s.toList.isEmpty = false := by rw [Lib.toList_data]; simpa using hge.1 rfl
      have hemp2 : (s.toList == []) = false := by rw [Lib.toList_data]; simpa using hge.1 rfl
      simp only [Tree.isType, decide_eq_true_eq] at hty
      have HT : Hid (ByteArray.mk #[105] = (Tree.node s []).tgt.txt) := by show _ = _; rw [tgt_leaf, Tree.txt, text_leaf, hty]; rfl
      clear hge hty hft ih
      go_enter Try.func62, Try.ntmps62
      go_wp2
      go_ret
      exact ⟨congrArg (fun x => Ending.returned (.string x)) HT.out, hB0⟩
    · have hse : s.toList = [] := by rw [Lib.toList_data]; exact Classical.byContradiction fun h => by have := hge.2 h; simp at this
      have hemp : s.toList.isEmpty = true := by rw [hse]; rfl
      have hemp2 : (s.toList == []) = true := by rw [hse]; rfl
      obtain ⟨b, off, rfl, hA, hc⟩ := hs.uncons
      simp only [Tree.sz, Tree.szL] at hn
      have hgl := (Tree.good_parts hgood).1
      simp only [Tree.goodL, Bool.and_eq_true, and_true] at hgl
      have hpl := leaf_of_atom hgl.1 (by rcases hp with h | h <;> rw [h] <;> simp)
      have hps : p.size = 1 := by rw [hpl]; simp [Tree.size]
      have h2 : (Tree.node s [p, x, y]).size = 1 + x.size + y.size := by simp [Tree.size, Tree.sizeL, hps]; omega
      have fx := tgt_facts _ x (Nat.le_refl _) hgl.2.1 htx
      have fy := tgt_facts _ y (Nat.le_refl _) hgl.2.2 hty'
      have HX := Lib.hid (fun v w hr => ih x A v w (by omega) hr hgl.2.1 htx (by omega))
      have HY := Lib.hid (fun v w hr => ih y A v w (by omega) hr hgl.2.2 hty' (by omega))
      have hxs : x.tgt.txt.size ≤ 100000 := by rw [Tree.txt, bts_size]; omega
      have hys : y.tgt.txt.size ≤ 100000 := by rw [Tree.txt, bts_size]; omega
      have hos : (onw y.tgt).txt.size ≤ 100100 := by rw [Tree.txt, bts_size, onw_text]; simp; omega
      have HNX := Lib.hid (fun w => l6tNext_any y.tgt w (by omega))
      have htg := tgt_three s p x y
      have HTG := Lib.hid htg
      clear ih hgl hpl hps hge hse htg hft hty htx hty' hgood
      obtain ⟨o0, n0, c0', ca0, cb0, r0⟩ := hc.nth 0 (k := off) rfl rfl
      have HC := Lib.hid (RepC.keep (Keeps.alloc A w (.cells #[.string s, .slice (some ⟨b, off, none⟩) [p, x, y].length c] 46)) hA _ _ hc)
      obtain ⟨o1, n1, c1', ca1, cb1, r1'⟩ := hc.nth 1 (k := off + 2) rfl rfl
      have r1 := Rep.keep (Keeps.alloc A w (.cells #[.string s, .slice (some ⟨b, off, none⟩) [p, x, y].length c] 46)) _ _ r1'
      have hlb := RepC.block hc
      go_enter Try.func62, Try.ntmps62
      go_wp2_with fail
      refine (HX.out _ _ r1).mono ?_
      rintro e w1 ⟨rfl, hb1⟩
      have hK1 := Keeps.below (A := A) hb1
      obtain ⟨b0, b1⟩ := box_cells (box_at hb1)
      obtain ⟨o2, n2, c2', ca2, cb2, r2⟩ := (RepC.keep hK1 hA _ _ HC.out).nth 2 (k := off + 4) rfl rfl
      have hB1 := hB0.trans (hb1.mono (by simp))
      have HC1 := Lib.hid (RepC.keep hK1 hA _ _ HC.out)
      have HBX := Lib.hid (box_at hb1)
      clear hb1 hK1
      go_wp2_with fail
      refine (HY.out _ _ r2).mono ?_
      rintro e w2 ⟨rfl, hb2⟩
      have hK2 := Keeps.below (A := A) hb2
      obtain ⟨d0, d1⟩ := box_cells ((hb2.block _ (Array.getElem?_eq_some_iff.1 HBX.out).1).trans HBX.out)
      obtain ⟨o3, n3, c3', ca3, cb3, r3⟩ := (RepC.keep hK2 hA _ _ HC1.out).nth 0 (k := off) rfl rfl
      have hB2 := hB1.trans (hb2.mono hB1.size)
      clear hb2 hK2 HC1 HBX HC hs
      by_cases h42 : p.atom.data.toList = [42]
      · have hq : (p.atom.toList == [42]) = true := by rw [Lib.toList_data, h42]; rfl
        have HT : Hid (ByteArray.mk #[40, 116, 32] ++ x.tgt.txt ++ ByteArray.mk #[32] ++ y.tgt.txt ++ ByteArray.mk #[41] = (Tree.node s [p, x, y]).tgt.txt) := by
          refine bts_eq ?_
          rw [HTG.out, if_pos h42, tgtP_text]
          simp only [data_add, Tree.txt, bts_data]
          simp
        generalize x.tgt.txt = X at *
        generalize y.tgt.txt = Y at *
        clear h42 HTG
        go_wp2
        go_ret
        exact ⟨congrArg (fun x => Ending.returned (.string x)) HT.out, hB2⟩
      · have hq : (p.atom.toList == [42]) = false := by rw [Lib.toList_data]; simpa using h42
        have HT : Hid (ByteArray.mk #[40, 101, 32, 40, 116, 32, 40, 99, 32, 118, 32] ++ x.tgt.txt ++ ByteArray.mk #[32] ++ (onw y.tgt).txt ++ ByteArray.mk #[41, 32, 118, 41, 41] = (Tree.node s [p, x, y]).tgt.txt) := by
          refine bts_eq ?_
          rw [HTG.out, if_neg h42, tgtF_text]
          simp only [data_add, Tree.txt, bts_data]
          simp
        generalize x.tgt.txt = X at *
        generalize y.tgt.txt = Y at *
        generalize (onw y.tgt).txt = O at *
        clear h42 HTG
        go_wp2_with fail
        refine (HNX.out _).mono ?_
        rintro e w3 ⟨rfl, rfl⟩
        go_wp2
        go_ret
        exact ⟨congrArg (fun x => Ending.returned (.string x)) HT.out, hB2⟩

theorem repS_one {w : World} {C : Nat → Prop} {b : Nat} {x0 x1 : Value} {ty : TypeId} {x : Tree} (h : w.heap[b]? = some (.cells #[x0, x1] ty (0, 0))) (hC : C b) (hx : Rep w C x (.agg #[x0, x1])) : RepS w C [x] (some ⟨b, 0, none⟩) 1 := by
  have c : ∀ j v, (#[x0, x1] : Array Value)[j]? = some v → w.cell? ⟨b, j, none⟩ = some v := fun j v hv => by simp only [World.cell?, h]; exact hv
  simp only [RepS, RepC]
  exact ⟨b, 0, rfl, rfl, hC, ⟨x0, x1, c 0 _ rfl, c 1 _ rfl, hx⟩, trivial⟩

theorem repS_three {w : World} {C : Nat → Prop} {b : Nat} {x0 x1 y0 y1 z0 z1 : Value} {ty : TypeId} {x y z : Tree} (h : w.heap[b]? = some (.cells #[x0, x1, y0, y1, z0, z1] ty (0, 0))) (hC : C b) (hx : Rep w C x (.agg #[x0, x1])) (hy : Rep w C y (.agg #[y0, y1])) (hz : Rep w C z (.agg #[z0, z1])) : RepS w C [x, y, z] (some ⟨b, 0, none⟩) 3 := by
  have c : ∀ j v, (#[x0, x1, y0, y1, z0, z1] : Array Value)[j]? = some v → w.cell? ⟨b, j, none⟩ = some v := fun j v hv => by simp only [World.cell?, h]; exact hv
  simp only [RepS, RepC]
  exact ⟨b, 0, rfl, rfl, hC, ⟨x0, x1, c 0 _ rfl, c 1 _ rfl, hx⟩, ⟨y0, y1, c 2 _ rfl, c 3 _ rfl, hy⟩, ⟨z0, z1, c 4 _ rfl, c 5 _ rfl, hz⟩, trivial⟩

/-- What a function that makes a form hands back, its blocks under C. -/
def MadeR (C : Nat → Prop) (t : Tree) (w : World) (e : Ending) (w' : World) : Prop :=
  ∃ a o l c, e = .returned (.agg #[.string a, .slice o l c]) ∧ Rep w' C t (.agg #[.string a, .slice o l c]) ∧ Below w.heap.size w w'

theorem headedC_any (s : ByteArray) (qs : List Tree) (C : Nat → Prop) (o : Option Addr) (c : Nat) (w : World) (hs : RepS w C qs o qs.length) (hqn : qs ≠ []) (hql : qs.length ≤ 100000000) (hC : ∀ z, w.heap.size ≤ z → C z) :
    Calls Try.prog 64 #[.string s, .slice o qs.length c] w (MadeR C (.node ⟨#[]⟩ (.node s [] :: qs)) w) := by
  refine (headed_any s qs _ o c w (RepS.bound _ _ _ hs) hqn hql (fun b hb => hb.2)).mono ?_
  rintro e w' ⟨a, o', l, c', rfl, hr, hb⟩
  exact ⟨a, o', l, c', rfl, Rep.weak (fun z hz => hz.elim (fun h => h.1) (hC z)) _ _ hr, hb⟩

/-- One, two or three forms side by side in a block, headed. -/
theorem headed1 (s : ByteArray) {x : Tree} {C : Nat → Prop} {b : Nat} {x0 x1 : Value} {ty : TypeId} {w : World} (h : w.heap[b]? = some (.cells #[x0, x1] ty (0, 0))) (hx : Rep w C x (.agg #[x0, x1])) (hb : C b) (hC : ∀ z, w.heap.size ≤ z → C z) :
    Calls Try.prog 64 #[.string s, .slice (some ⟨b, 0, none⟩) 1 1] w (MadeR C (.node ⟨#[]⟩ [.node s [], x]) w) :=
  headedC_any s [x] C _ 1 w (repS_one h hb hx) (by simp) (by simp) hC
theorem headed2 (s : ByteArray) {x y : Tree} {C : Nat → Prop} {b : Nat} {x0 x1 y0 y1 : Value} {ty : TypeId} {w : World} (h : w.heap[b]? = some (.cells #[x0, x1, y0, y1] ty (0, 0))) (hx : Rep w C x (.agg #[x0, x1])) (hy : Rep w C y (.agg #[y0, y1])) (hb : C b) (hC : ∀ z, w.heap.size ≤ z → C z) :
    Calls Try.prog 64 #[.string s, .slice (some ⟨b, 0, none⟩) 2 2] w (MadeR C (.node ⟨#[]⟩ [.node s [], x, y]) w) :=
  headedC_any s [x, y] C _ 2 w (repS_two h hb hx hy) (by simp) (by simp) hC
theorem headed3 (s : ByteArray) {x y z : Tree} {C : Nat → Prop} {b : Nat} {x0 x1 y0 y1 z0 z1 : Value} {ty : TypeId} {w : World} (h : w.heap[b]? = some (.cells #[x0, x1, y0, y1, z0, z1] ty (0, 0))) (hx : Rep w C x (.agg #[x0, x1])) (hy : Rep w C y (.agg #[y0, y1])) (hz : Rep w C z (.agg #[z0, z1])) (hb : C b) (hC : ∀ z, w.heap.size ≤ z → C z) :
    Calls Try.prog 64 #[.string s, .slice (some ⟨b, 0, none⟩) 3 3] w (MadeR C (.node ⟨#[]⟩ [.node s [], x, y, z]) w) :=
  headedC_any s [x, y, z] C _ 3 w (repS_three h hb hx hy hz) (by simp) (by simp) hC

set_option maxRecDepth 100000 in
set_option maxHeartbeats 3200000 in
theorem onward_any (t : Tree) (A : Nat → Prop) (a : ByteArray) (o : Option Addr) (l c : Nat) (w : World) (hr : Rep w A t (.agg #[.string a, .slice o l c])) :
    Calls Try.prog 35 #[.agg #[.string a, .slice o l c]] w (MadeR (fun z => A z ∨ w.heap.size ≤ z) (onw t) w) := by
  have HQ := Lib.hid (Rep.bound _ _ hr)
  have bel0 : Below w.heap.size w ((w.alloc (.cells #[.string a, .slice o l c] 38)).alloc (.cells #[.string ⟨#[]⟩, .slice none 0 0] 38)) := ((Below.refl _ _).alloc (Nat.le_refl _) _).alloc (by simp) _
  have hx0 : ((w.alloc (.cells #[.string a, .slice o l c] 38)).alloc (.cells #[.string ⟨#[]⟩, .slice none 0 0] 38)).heap[w.heap.size]? = some (.cells #[.string a, .slice o l c] 38 (0, 0)) := (Lib.alloc_old _ _ _ (by simp)).trans (heap_alloc_new _ _)
  have hx1 : ((w.alloc (.cells #[.string a, .slice o l c] 38)).alloc (.cells #[.string ⟨#[]⟩, .slice none 0 0] 38)).heap[w.heap.size + 1]? = some (.cells #[.string ⟨#[]⟩, .slice none 0 0] 38 (0, 0)) := by
    have := heap_alloc_new (w.alloc (.cells #[.string a, .slice o l c] 38)) (.cells #[.string ⟨#[]⟩, .slice none 0 0] 38)
    rwa [World.size_alloc] at this
  have HX0 := Lib.hid hx0
  have HX1 := Lib.hid hx1
  clear hx0 hx1 hr
  go_enter Try.func35, Try.ntmps35
  go_wp2_with fail
  refine (atomF_any ⟨#[118]⟩ _).mono ?_
  rintro e w1 ⟨rfl, hb1⟩
  have hs1 := hb1.size
  simp only [World.size_alloc] at hs1
  have hw1 : Below w.heap.size w w1 := bel0.trans (hb1.mono (by simp; omega))
  obtain ⟨a0, a1⟩ := box_cells ((hb1.block w.heap.size (by simp; omega)).trans HX0.out)
  have hrc := (hb1.block (w.heap.size + 1) (by simp)).trans HX1.out
  have HRC := Lib.hid hrc
  have hv := heap_alloc_new w1 (.cells #[.string ⟨#[118]⟩, .slice none 0 0] 38)
  have HV := Lib.hid hv
  have hlH : w.heap.size < w1.heap.size := by omega
  -- what stands when the region begins, and stays
  have hS : ∀ w' : World, Below (w1.heap.size + 1) (w1.alloc (.cells #[.string ⟨#[118]⟩, .slice none 0 0] 38)) w' → w'.cell? ⟨w1.heap.size, 0, none⟩ = some (.string ⟨#[118]⟩) ∧ w'.cell? ⟨w1.heap.size, 1, none⟩ = some (.slice none 0 0) ∧ w'.cell? ⟨w.heap.size, 0, none⟩ = some (.string a) ∧ w'.cell? ⟨w.heap.size, 1, none⟩ = some (.slice o l c) := fun w' h => by
    obtain ⟨v0, v1⟩ := box_cells ((h.block w1.heap.size (by omega)).trans HV.out)
    obtain ⟨q0, q1⟩ := box_cells ((h.block w.heap.size (by omega)).trans ((Below.heap_alloc w1 (.cells #[.string ⟨#[118]⟩, .slice none 0 0] 38) w.heap.size hlH).trans ((hb1.block w.heap.size (by simp; omega)).trans HX0.out)))
    exact ⟨v0, v1, q0, q1⟩
  have HS := Lib.hid hS
  have hSS : ∀ (w' : World) (j : Nat) (v : Value), (w'.cell? ⟨w1.heap.size, 0, none⟩ = some (.string ⟨#[118]⟩) ∧ w'.cell? ⟨w1.heap.size, 1, none⟩ = some (.slice none 0 0) ∧ w'.cell? ⟨w.heap.size, 0, none⟩ = some (.string a) ∧ w'.cell? ⟨w.heap.size, 1, none⟩ = some (.slice o l c)) →
      ((w'.setCell ⟨w.heap.size + 1, j, none⟩ v).cell? ⟨w1.heap.size, 0, none⟩ = some (.string ⟨#[118]⟩) ∧ (w'.setCell ⟨w.heap.size + 1, j, none⟩ v).cell? ⟨w1.heap.size, 1, none⟩ = some (.slice none 0 0) ∧ (w'.setCell ⟨w.heap.size + 1, j, none⟩ v).cell? ⟨w.heap.size, 0, none⟩ = some (.string a) ∧ (w'.setCell ⟨w.heap.size + 1, j, none⟩ v).cell? ⟨w.heap.size, 1, none⟩ = some (.slice o l c)) := by
    intro w' j v ⟨h1, h2, h3, h4⟩
    refine ⟨?_, ?_, ?_, ?_⟩
    · rw [World.cell?_of_block (w := w') (a := ⟨w1.heap.size, 0, none⟩) (Below.heap_setCell _ _ _ _ (by simp; omega))]; exact h1
    · rw [World.cell?_of_block (w := w') (a := ⟨w1.heap.size, 1, none⟩) (Below.heap_setCell _ _ _ _ (by simp; omega))]; exact h2
    · rw [World.cell?_of_block (w := w') (a := ⟨w.heap.size, 0, none⟩) (Below.heap_setCell _ _ _ _ (by simp))]; exact h3
    · rw [World.cell?_of_block (w := w') (a := ⟨w.heap.size, 1, none⟩) (Below.heap_setCell _ _ _ _ (by simp))]; exact h4
  have HSS := Lib.hid hSS
  have hbel2 : Below w.heap.size w (w1.alloc (.cells #[.string ⟨#[118]⟩, .slice none 0 0] 38)) := hw1.alloc hw1.size _
  have HBEL := Lib.hid hbel2
  clear hS hSS hv hrc hbel2 hb1
  have HQ1 : Hid (∀ W, Below (w1.heap.size + 1) (w1.alloc (.cells #[.string ⟨#[118]⟩, .slice none 0 0] 38)) W → Rep W (fun z => (A z ∧ z < w.heap.size) ∨ w.heap.size + 2 ≤ z) t (.agg #[.string a, .slice o l c])) := fun W hW =>
    Rep.weak (fun z hz => .inl hz) _ _ (Rep.keep (Keeps.below' (HBEL.out.trans (hW.mono (by omega))) (fun z hz => hz.2)) _ _ HQ.out)
  have hC : ∀ z W, Below (w1.heap.size + 1) (w1.alloc (.cells #[.string ⟨#[118]⟩, .slice none 0 0] 38)) W → W.heap.size ≤ z → ((A z ∧ z < w.heap.size) ∨ w.heap.size + 2 ≤ z) := fun z W hW hz => by
    have := hW.size
    simp only [World.size_alloc] at this
    right; omega
  have HCC := Lib.hid hC
  clear hC
  have hbX : Below (w1.heap.size + 1) (w1.alloc (.cells #[.string ⟨#[118]⟩, .slice none 0 0] 38)) (((w1.alloc (.cells #[.string ⟨#[118]⟩, .slice none 0 0] 38)).alloc (.cells #[.string ⟨#[118]⟩, .slice none 0 0, .string a, .slice o l c] 38)).drew) := ((Below.refl _ _).alloc (by simp) _).drew
  have hX : (((w1.alloc (.cells #[.string ⟨#[118]⟩, .slice none 0 0] 38)).alloc (.cells #[.string ⟨#[118]⟩, .slice none 0 0, .string a, .slice o l c] 38)).drew).heap[w1.heap.size + 1]? = some (.cells #[.string ⟨#[118]⟩, .slice none 0 0, .string a, .slice o l c] 38 (0, 0)) := by
    have := heap_alloc_new (w1.alloc (.cells #[.string ⟨#[118]⟩, .slice none 0 0] 38)) (.cells #[.string ⟨#[118]⟩, .slice none 0 0, .string a, .slice o l c] 38)
    rw [World.size_alloc] at this
    exact this
  have HBX := Lib.hid hbX
  have HX := Lib.hid hX
  have hbr : ∀ w', Below (w1.heap.size + 1) (w1.alloc (.cells #[.string ⟨#[118]⟩, .slice none 0 0] 38)) w' → w1.heap.size + 1 ≤ w'.heap.size := fun w' h => by have := h.size; simpa using this
  have HBR := Lib.hid hbr
  have hst : ∀ w', Below (w1.heap.size + 1) (w1.alloc (.cells #[.string ⟨#[118]⟩, .slice none 0 0] 38)) w' → w'.heap[w.heap.size + 1]? = some (.cells #[.string ⟨#[]⟩, .slice none 0 0] 38 (0, 0)) := fun w' h => (h.block (w.heap.size + 1) (by omega)).trans ((Below.heap_alloc w1 (.cells #[.string ⟨#[118]⟩, .slice none 0 0] 38) _ (by omega)).trans HRC.out)
  have HST := Lib.hid hst
  clear hbX hX hbr hst
  go_wp2_with fail
  go_region_held3 (fun w' => w'.cell? ⟨w1.heap.size, 0, none⟩ = some (.string ⟨#[118]⟩) ∧ w'.cell? ⟨w1.heap.size, 1, none⟩ = some (.slice none 0 0) ∧ w'.cell? ⟨w.heap.size, 0, none⟩ = some (.string a) ∧ w'.cell? ⟨w.heap.size, 1, none⟩ = some (.slice o l c))
    (first
      | exact HS.out _ (Below.refl _ _).drew
      | exact HS.out _ HBX.out
      | exact HS.out _ hbW4 | exact HS.out _ hbW3 | exact HS.out _ hbW2
      | exact HS.out _ (hbW3.alloc (HBR.out _ hbW3) _) | exact HS.out _ (hbW2.alloc (HBR.out _ hbW2) _)
      | exact HSS.out _ _ _ (HSS.out _ _ _ (HS.out _ hbW4)))
    (first
      | (go_at_call_of 64 (ByteArray.mk #[99]); refine (headed2 ⟨#[99]⟩ (x := .node ⟨#[118]⟩ []) (y := t) (C := fun z => (A z ∧ z < w.heap.size) ∨ w.heap.size + 2 ≤ z) (b := w1.heap.size + 1) HX.out (Rep.leaf _ _ _) (HQ1.out _ HBX.out) (Or.inr (by omega)) (fun z hz => HCC.out z _ HBX.out hz)).mono ?_; rintro e w2 ⟨a2, o2, l2, c2, rfl, hr2, hb2⟩; have hbW2 := HBX.out.trans (hb2.mono (HBR.out _ HBX.out)); have hbW2a := hbW2.alloc (HBR.out _ hbW2) (.cells #[.string a2, .slice o2 l2 c2, .string ⟨#[118]⟩, .slice none 0 0] 38))
      | (go_at_call_of 64 (ByteArray.mk #[116]); refine (headed2 ⟨#[116]⟩ (x := .node ⟨#[]⟩ [.node ⟨#[99]⟩ [], .node ⟨#[118]⟩ [], t]) (y := .node ⟨#[118]⟩ []) (C := fun z => (A z ∧ z < w.heap.size) ∨ w.heap.size + 2 ≤ z) (b := w2.heap.size) (heap_alloc_new w2 _) (Rep.keep (Keeps.alloc _ w2 _) _ _ hr2) (Rep.leaf _ _ _) (Or.inr (by have := HBR.out _ hbW2; omega)) (fun z hz => HCC.out z _ hbW2a hz)).mono ?_; rintro e w3 ⟨a3, o3, l3, c3, rfl, hr3, hb3⟩; have hbW3 := hbW2a.trans (hb3.mono (HBR.out _ hbW2a)); have hbW3a := hbW3.alloc (HBR.out _ hbW3) (.cells #[.string a3, .slice o3 l3 c3] 38))
      | (go_at_call_of 64 (ByteArray.mk #[101]); refine (headed1 ⟨#[101]⟩ (x := .node ⟨#[]⟩ [.node ⟨#[116]⟩ [], .node ⟨#[]⟩ [.node ⟨#[99]⟩ [], .node ⟨#[118]⟩ [], t], .node ⟨#[118]⟩ []]) (C := fun z => (A z ∧ z < w.heap.size) ∨ w.heap.size + 2 ≤ z) (b := w3.heap.size) (heap_alloc_new w3 _) (Rep.keep (Keeps.alloc _ w3 _) _ _ hr3) (Or.inr (by have := HBR.out _ hbW3; omega)) (fun z hz => HCC.out z _ hbW3a hz)).mono ?_; rintro e w4 ⟨a4, o4, l4, c4, rfl, hr4, hb4⟩; have hbW4 := hbW3a.trans (hb4.mono (HBR.out _ hbW3a)); have hrc4 := HST.out _ hbW4; obtain ⟨k0, k1⟩ := box_cells hrc4; have k2 := Lib.frozen_of_heap hrc4 0; have k3 := Lib.frozen_of_heap hrc4 1; have k4 : w.heap.size + 1 < w4.heap.size := (Array.getElem?_eq_some_iff.1 hrc4).1))
  have hB4 : Below w.heap.size w w4 := HBEL.out.trans (hbW4.mono (by omega))
  go_wp2
  exact bodyPost_ret (v := .agg #[.string a4, .slice o4 l4 c4]) (by simp [results, Try.results35, go_sem, k0, k1]) rfl ⟨a4, o4, l4, c4, rfl, by
    refine Rep.weak (fun z hz => ?_) _ _ (Rep.keep (((Keeps.refl _ _).setCell (fun z hz => ?_) _).setCell (fun z hz => ?_) _) _ _ hr4)
    · rcases hz with hz | hz
      · exact .inl hz.1
      · right; omega
    · rcases hz with hz | hz
      · have := hz.2; simp; omega
      · simp; omega
    · rcases hz with hz | hz
      · have := hz.2; simp; omega
      · simp; omega, (hB4.setCell (by simp) _).setCell (by simp) _⟩

end Go.Proofs.Ytcobcmgmleblkaa
