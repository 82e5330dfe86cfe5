/- The target type of a type, and the type of what goes on: of the program and of the reference. -/
import Derived.Test.YtnhmbncamimehaaHead
import Derived.Test.YtnhmbncamimehaaTMake
import Derived.Deep.RegionHeld3
import Derived.Deep.Cut
import Derived.Deep.CutRange
namespace Go.Proofs.Ytnhmbncamimehaa
open Go.RowKit

/-- The type of what goes on with a value of a target type. -/
def onw (t : Tree) : Tree := .node ⟨#[]⟩ [.node ⟨#[101]⟩ [], .node ⟨#[]⟩ [.node ⟨#[116]⟩ [], .node ⟨#[]⟩ [.node ⟨#[99]⟩ [], .node ⟨#[118]⟩ [], t], .node ⟨#[118]⟩ []]]

/-- The target type of a type of functions, of both target types. -/
def tgtF (x y : Tree) : Tree := .node ⟨#[]⟩ [.node ⟨#[101]⟩ [], .node ⟨#[]⟩ [.node ⟨#[116]⟩ [], .node ⟨#[]⟩ [.node ⟨#[99]⟩ [], .node ⟨#[118]⟩ [], x, onw y], .node ⟨#[118]⟩ []]]

/-- The target type of a type. -/
def Tree.tgt : Tree → Tree
  | .node _ [p, x, y] => if p.atom.data.toList = [42] then .node ⟨#[]⟩ [.node ⟨#[116]⟩ [], x.tgt, y.tgt] else tgtF x.tgt y.tgt
  | t => t

theorem onw_text (t : Tree) : (onw t).text = [40, 101, 32, 40, 116, 32, 40, 99, 32, 118, 32] ++ (t.text ++ [41, 32, 118, 41, 41]) := by simp [onw, Tree.text, textL_cons]
theorem tgtF_text (x y : Tree) : (tgtF x y).text = [40, 101, 32, 40, 116, 32, 40, 99, 32, 118, 32] ++ (x.text ++ (32 :: ((onw y).text ++ [41, 32, 118, 41, 41]))) := by simp [tgtF, Tree.text, textL_cons]
theorem tgtP_text (x y : Tree) : (Tree.node ⟨#[]⟩ [.node ⟨#[116]⟩ [], x, y]).text = [40, 116, 32] ++ (x.text ++ (32 :: (y.text ++ [41]))) := by simp [Tree.text, textL_cons]

theorem tgt_leaf (a : ByteArray) : (Tree.node a []).tgt = .node a [] := rfl
theorem tgt_three (a : ByteArray) (p x y : Tree) : (Tree.node a [p, x, y]).tgt = if p.atom.data.toList = [42] then .node ⟨#[]⟩ [.node ⟨#[116]⟩ [], x.tgt, y.tgt] else tgtF x.tgt y.tgt := by simp only [Tree.tgt]

theorem leaf_good (c : UInt8) (h : atomB c = true) : (Tree.node ⟨#[c]⟩ []).good = true := by simp [Tree.good, h]
theorem onw_good {t : Tree} (h : t.good = true) : (onw t).good = true := by
  simp only [onw, Tree.good, Tree.goodL, h]; rfl
theorem tgtF_good {x y : Tree} (hx : x.good = true) (hy : y.good = true) : (tgtF x y).good = true := by
  simp only [tgtF, Tree.good, Tree.goodL, hx, onw_good hy]; rfl
theorem tgtP_good {x y : Tree} (hx : x.good = true) (hy : y.good = true) : (Tree.node ⟨#[]⟩ [.node ⟨#[116]⟩ [], x, y]).good = true := by
  simp only [Tree.good, Tree.goodL, hx, hy]; rfl

theorem tgt_facts (n : Nat) : ∀ t : Tree, t.sz ≤ n → t.good = true → t.isType = true → t.tgt.good = true ∧ t.tgt.text.length ≤ 40 * t.size ∧ t.tgt.sz ≤ 30 * t.size := by
  induction n with
  | zero => intro t h; cases t; simp [Tree.sz] at h
  | succ n ih =>
    intro t hn hg ht
    obtain ⟨a, ps⟩ := t
    rcases isType_cases ht with rfl | ⟨p, x, y, rfl, hx, hy, hp⟩
    · simp only [Tree.isType, decide_eq_true_eq] at ht
      rw [tgt_leaf]
      refine ⟨hg, by rw [text_leaf, ht]; simp [Tree.size], by simp [Tree.sz, Tree.szL, Tree.size]⟩
    · simp only [Tree.sz, Tree.szL] at hn
      have hgl := (Tree.good_parts hg).1
      simp only [Tree.goodL, Bool.and_eq_true, and_true] at hgl
      obtain ⟨x1, x2, x3⟩ := ih x (by omega) hgl.2.1 hx
      obtain ⟨y1, y2, y3⟩ := ih y (by omega) hgl.2.2 hy
      have hpl := leaf_of_atom hgl.1 (by rcases hp with h | h <;> rw [h] <;> simp)
      have hps : p.size = 1 := by rw [hpl]; simp [Tree.size]
      have h2 : (Tree.node a [p, x, y]).size = 1 + x.size + y.size := by simp [Tree.size, Tree.sizeL, hps]; omega
      rw [tgt_three, h2]
      by_cases h42 : p.atom.data.toList = [42]
      · rw [if_pos h42]
        refine ⟨tgtP_good x1 y1, by rw [tgtP_text]; simp; omega, by simp [Tree.sz, Tree.szL]; omega⟩
      · rw [if_neg h42]
        refine ⟨tgtF_good x1 y1, by rw [tgtF_text, onw_text]; simp; omega, by simp [tgtF, onw, Tree.sz, Tree.szL]; omega⟩

theorem typed_tgt {s : List UInt8} {t : Tree} (h : ptype s = some t) : t.tgt.good = true ∧ t.tgt.text.length ≤ 640 ∧ t.tgt.sz ≤ 480 := by
  obtain ⟨hg, hty, hz, -, -⟩ := ptype_facts h
  obtain ⟨h1, h2, h3⟩ := tgt_facts _ t (Nat.le_refl _) hg hty
  exact ⟨h1, by omega, by omega⟩


theorem repS_one {w : World} {C : Nat → Prop} {b : Nat} {x0 x1 : Value} {ty : TypeId} {x : Tree} (h : w.heap[b]? = some (.cells #[x0, x1] ty (0, 0))) (hC : C b) (hx : Rep w C x (.agg #[x0, x1])) : RepS w C [x] (some ⟨b, 0, none⟩) 1 := by
  have c : ∀ j v, (#[x0, x1] : Array Value)[j]? = some v → w.cell? ⟨b, j, none⟩ = some v := fun j v hv => by simp only [World.cell?, h]; exact hv
  simp only [RepS, RepC]
  exact ⟨b, 0, rfl, rfl, hC, ⟨x0, x1, c 0 _ rfl, c 1 _ rfl, hx⟩, trivial⟩

theorem repS_three {w : World} {C : Nat → Prop} {b : Nat} {x0 x1 y0 y1 z0 z1 : Value} {ty : TypeId} {x y z : Tree} (h : w.heap[b]? = some (.cells #[x0, x1, y0, y1, z0, z1] ty (0, 0))) (hC : C b) (hx : Rep w C x (.agg #[x0, x1])) (hy : Rep w C y (.agg #[y0, y1])) (hz : Rep w C z (.agg #[z0, z1])) : RepS w C [x, y, z] (some ⟨b, 0, none⟩) 3 := by
  have c : ∀ j v, (#[x0, x1, y0, y1, z0, z1] : Array Value)[j]? = some v → w.cell? ⟨b, j, none⟩ = some v := fun j v hv => by simp only [World.cell?, h]; exact hv
  simp only [RepS, RepC]
  exact ⟨b, 0, rfl, rfl, hC, ⟨x0, x1, c 0 _ rfl, c 1 _ rfl, hx⟩, ⟨y0, y1, c 2 _ rfl, c 3 _ rfl, hy⟩, ⟨z0, z1, c 4 _ rfl, c 5 _ rfl, hz⟩, trivial⟩


end Go.Proofs.Ytnhmbncamimehaa
