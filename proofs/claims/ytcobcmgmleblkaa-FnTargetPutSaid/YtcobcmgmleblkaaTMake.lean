/- TypeMake of the program and of the reference. -/
import Derived.Test.YtcobcmgmleblkaaHead
import Derived.Test.YtcobcmgmleblkaaPlainU
namespace Go.Proofs.Ytcobcmgmleblkaa
open Go.RowKit

/-- The sign of a type. -/
def sgn (fn : Bool) : ByteArray := if fn then ⟨#[62]⟩ else ⟨#[42]⟩
def typeT (fn : Bool) (x y : Tree) : Tree := .node ⟨#[]⟩ [.node (sgn fn) [], x, y]
/-- The type of both. -/
def makeOf (fn : Bool) (a b : List UInt8) : Option Tree := match ptype a, ptype b with
  | some x, some y => if (typeT fn x y).typed = true then some (typeT fn x y) else none
  | _, _ => none

theorem type_small (n : Nat) : ∀ t : Tree, t.sz ≤ n → t.good = true → t.isType = true → t.text.length + 4 ≤ 5 * t.size ∧ t.depth ≤ t.size := by
  induction n with
  | zero => intro t h; cases t; simp [Tree.sz] at h
  | succ n ih =>
    intro t hn hg ht
    obtain ⟨a, ps⟩ := t
    rcases isType_cases ht with rfl | ⟨p, x, y, rfl, hx, hy, hp⟩
    · simp only [Tree.isType, decide_eq_true_eq] at ht
      rw [text_leaf, ht]; simp [Tree.size, Tree.depth]
    · simp only [Tree.sz, Tree.szL] at hn
      have hgl := (Tree.good_parts hg).1
      simp only [Tree.goodL, Bool.and_eq_true, and_true] at hgl
      obtain ⟨x1, x2⟩ := ih x (by omega) hgl.2.1 hx
      obtain ⟨y1, y2⟩ := ih y (by omega) hgl.2.2 hy
      have hpl := leaf_of_atom hgl.1 (by rcases hp with h | h <;> rw [h] <;> simp)
      have hpt : p.text.length = 1 := by rw [hpl, text_leaf]; rcases hp with h | h <;> rw [h] <;> rfl
      have hps : p.size = 1 := by rw [hpl]; simp [Tree.size]
      have hpd : p.depth = 0 := by rw [hpl]; simp [Tree.depth]
      have h1 : (Tree.node a [p, x, y]).text.length = 5 + x.text.length + y.text.length := by simp [Tree.text, textL_cons, hpt]; omega
      have h2 : (Tree.node a [p, x, y]).size = 1 + x.size + y.size := by simp [Tree.size, Tree.sizeL, hps]; omega
      have h3 : (Tree.node a [p, x, y]).depth = max x.depth y.depth + 1 := by simp [Tree.depth, Tree.depthL, hpd]
      omega

theorem typed_fits {t : Tree} (hg : t.good = true) (ht : t.typed = true) : t.fits = true := by
  unfold Tree.typed at ht
  simp only [Bool.and_eq_true, decide_eq_true_eq] at ht
  have := type_small _ t (Nat.le_refl _) hg ht.1
  unfold Tree.fits
  simp; omega

theorem ptype_text {t : Tree} (hg : t.good = true) : ptype t.text = if t.typed = true then some t else none := by
  by_cases ht : t.typed = true
  · rw [if_pos ht]; exact ptype_some.2 ⟨parse_of_fits hg (typed_fits hg ht), ht⟩
  · rw [if_neg ht]
    unfold ptype
    by_cases hf : t.fits = true
    · rw [parse_of_fits hg hf]; simp [ht]
    · have := parse_isSome hg
      rw [show t.fits = false by simpa using hf] at this
      cases h : parse t.text with
      | none => rfl
      | some u => rw [h] at this; cases this

theorem typeT_good {fn : Bool} {x y : Tree} (hx : x.good = true) (hy : y.good = true) : (typeT fn x y).good = true := by
  unfold typeT
  simp only [Tree.good, Tree.goodL, hx, hy]
  cases fn <;> simp [sgn] <;> decide

theorem typeT_text (fn : Bool) (x y : Tree) : (typeT fn x y).text = 40 :: ((sgn fn).data.toList ++ 32 :: (x.text ++ 32 :: (y.text ++ [41]))) := by
  unfold typeT
  simp [Tree.text, textL_cons]

theorem makeOf_none1 {fn : Bool} {a b : List UInt8} (h : ptype a = none) : makeOf fn a b = none := by unfold makeOf; rw [h]
theorem makeOf_none2 {fn : Bool} {a b : List UInt8} (h : ptype b = none) : makeOf fn a b = none := by unfold makeOf; rw [h]; cases ptype a <;> rfl
theorem makeOf_some {fn : Bool} {a b : List UInt8} {x y : Tree} (h1 : ptype a = some x) (h2 : ptype b = some y) : makeOf fn a b = if (typeT fn x y).typed = true then some (typeT fn x y) else none := by unfold makeOf; rw [h1, h2]


end Go.Proofs.Ytcobcmgmleblkaa
