/- ReplF. Head. TMake. Tgt. Several texts in one. -/
import Derived.Test.YtoihkjnfklogpaaQ5
import Derived.Test.YtoihkjnfklogpaaSides
import Derived.Test.YtoihkjnfklogpaaTypeP
import Derived.Deep.RegionHeld3
import Derived.Deep.Cut
import Derived.Deep.CutRange
/- FormReplace of the program and of the reference. -/
namespace Go.Proofs.Ytoihkjnfklogpaa
open Go.RowKit

/-- What a function that hands back a text and whether it has one hands back. -/
def StrR (res : Option ByteArray) (w : World) (e : Ending) (w' : World) : Prop :=
  e = .returned (.tuple #[.string (res.getD ⟨#[]⟩), .bool res.isSome]) ∧ Below w.heap.size w w'



end Go.Proofs.Ytoihkjnfklogpaa

/- A type made of a sign and two types: of the program and of the reference. -/
namespace Go.Proofs.Ytoihkjnfklogpaa
open Go.RowKit

theorem RepC.pairs {w : World} {A : Nat → Prop} {b : Nat} : ∀ (ps : List Tree) (off : Nat), RepC w A ps b off →
    ∃ xs, Pairs w A ps xs ∧ xs.length = ps.length * 2 ∧ (∀ j u, xs[j]? = some u → w.cell? ⟨b, off + j, none⟩ = some u) ∧ ∀ u ∈ xs, u.oneCell' = true
  | [], _, _ => ⟨[], trivial, rfl, fun _ _ h => by simp at h, fun _ h => by simp at h⟩
  | p :: ps, off, h => by
    obtain ⟨o, n, c, hx, hy, hr, hps⟩ := h.uncons
    obtain ⟨xs, h1, h2, h3, h4⟩ := RepC.pairs ps (off + 2) hps
    refine ⟨.string p.atom :: .slice o n c :: xs, ⟨hr, h1⟩, by simp [h2]; omega, ?_, ?_⟩
    · intro j u hj
      match j, hj with
      | 0, hj => simp at hj; subst hj; simpa using hx
      | 1, hj => simp at hj; subst hj; exact hy
      | j + 2, hj =>
        have := h3 j u (by simpa using hj)
        rw [show off + (j + 2) = off + 2 + j from by omega]; exact this
    · intro u hu
      simp only [List.mem_cons] at hu
      rcases hu with rfl | rfl | hu
      · rfl
      · rfl
      · exact h4 u hu

theorem Pairs.append {w : World} {A : Nat → Prop} {qs : List Tree} {ys : List Value} (hq : Pairs w A qs ys) : ∀ (ps : List Tree) (xs : List Value), Pairs w A ps xs → Pairs w A (ps ++ qs) (xs ++ ys)
  | [], [], _ => hq
  | [], _ :: _, hp => by simp [Pairs] at hp
  | _ :: _, [], hp => by simp [Pairs] at hp
  | _ :: _, [_], hp => by simp [Pairs] at hp
  | _ :: ps, _ :: _ :: xs, hp => ⟨hp.1, Pairs.append hq ps xs hp.2⟩

/-- Several parts are appended at once. -/
theorem wpList_append_trees {P : Program} {ops : Array Oper} {rest : List Oper} {o : Oper} {a : Act} {Q : Exit → Act → World → Prop} {w : World} (hgd : o.guard = none) (s x0 : Operand) (t : TypeId)
    (ho : o.op = .call { callee := .builtin .append, args := #[s, x0], argTypes := #[t, t] })
    (base : Nat) (C : Nat → Prop) (e : TypeId) (i : TypeInfo) (z : Value) (bytes : Nat) (ht : P.underlying t = some (.slice e)) (hi : P.info? e = some i) (hz : i.zero = some z)
    (hsize : i.size = 2) (hby : i.bytes = bytes) (hzs : z.cells.size = 2) (hb64 : bytes ≤ 64) (v : Value) (hs : a.eval s = v) (ps : List Tree) (hrow : URow w base C e v ps) (b off m c : Nat) (hx0 : a.eval x0 = .slice (some ⟨b, off, none⟩) m c) (qs : List Tree) (hm : m = qs.length)
    {A : Nat → Prop} (hq : RepC w A qs b off) (hqn : qs ≠ [])
    (hA : ∀ b, A b → (C b ∨ base ≤ b) ∧ b < w.heap.size ∧ v.ownBlock ≠ some b) (hn : ps.length + qs.length ≤ 1000000000) (hbase : base ≤ w.heap.size)
    (h : ∀ g cap w', URow w' base C e (.slice (some ⟨g, 0, none⟩) (ps.length + m) cap) (ps ++ qs) → Below base w w' → wpList P ops Q rest (a.put o.dst (.slice (some ⟨g, 0, none⟩) (ps.length + m) cap)) w') : wpList P ops Q (o :: rest) a w := by
  subst hm
  obtain ⟨xs, h1, h2⟩ := hrow
  obtain ⟨news, n1, n2, n3, n4⟩ := RepC.pairs qs off hq
  have hadd : ∀ j, (⟨b, off, none⟩ : Addr).add j = ⟨b, off + j, none⟩ := by intro j; unfold Addr.add; split <;> simp_all
  obtain ⟨g, cap, w', hr, k1, k2, k3⟩ := run_append_own2 (P := P) w base t o.type e i z 2 bytes ht hi hz hsize hby hzs (by decide) v ps.length xs h1 ⟨b, off, none⟩ qs.length c news n2
    (by intro j u hj; rw [hadd]; exact n3 j u hj) n4 (by have := List.length_pos_iff.2 hqn; omega) (by simp only [maxLen]; omega)
    (by have := Nat.mul_le_mul (show ps.length + qs.length ≤ 1000000001 by omega) hb64; omega) hbase
  have hlt : ∀ b, v.ownBlock = some b → base ≤ b ∧ b < w.heap.size := h1.lt
  have hne : ∀ b, (C b ∨ base ≤ b) ∧ b < w.heap.size ∧ v.ownBlock ≠ some b → (C b ∨ base ≤ b) ∧ b < w'.heap.size ∧ Value.ownBlock (.slice (some ⟨g, 0, none⟩) (ps.length + qs.length) cap) ≠ some b := by
    intro b hb
    refine ⟨hb.1, Nat.lt_of_lt_of_le hb.2.1 k2.size, ?_⟩
    simp only [Value.ownBlock, ne_eq, Option.some.injEq]
    intro hgb
    subst hgb
    rcases k3 with k3 | k3
    · exact hb.2.2 k3
    · omega
  have hkeep : Keeps (fun b => (C b ∨ base ≤ b) ∧ b < w.heap.size ∧ v.ownBlock ≠ some b) w w' := keeps_of_blocks fun b hb => k2.block b hb.2.1 (fun e => hb.2.2 e.symm)
  have hrow' : URow w' base C e (.slice (some ⟨g, 0, none⟩) (ps.length + qs.length) cap) (ps ++ qs) :=
    ⟨xs ++ news, by simpa using k1, Pairs.append (Pairs.keep hkeep hne _ _ (Pairs.keep (fun _ _ _ _ h => h) hA _ _ n1)) _ _ (Pairs.keep hkeep hne _ _ h2)⟩
  have hbel : Below base w w' := (Below.refl base w).grown k2 hbase (fun k hk => (hlt k hk).1)
  refine wpList_plain hgd fun K hK => ?_
  unfold Oper.wp execOp
  simp only [ho, resolve, invoke, builtin, Sem.run_bind, Sem.run_pure, Result.andThen_ok, List.map_toArray, List.map_cons, List.map_nil, hs, hx0, hr]
  exact hK _ _ (h g cap w' hrow' hbel)

theorem repS_two {w : World} {A : Nat → Prop} {b : Nat} {x0 x1 y0 y1 : Value} {ty : TypeId} {x y : Tree} (h : w.heap[b]? = some (.cells #[x0, x1, y0, y1] ty (0, 0))) (hA : A b) (hx : Rep w A x (.agg #[x0, x1])) (hy : Rep w A y (.agg #[y0, y1])) : RepS w A [x, y] (some ⟨b, 0, none⟩) 2 := by
  have c : ∀ j v, (#[x0, x1, y0, y1] : Array Value)[j]? = some v → w.cell? ⟨b, j, none⟩ = some v := fun j v hv => by simp only [World.cell?, h]; exact hv
  simp only [RepS, RepC]
  exact ⟨b, 0, rfl, rfl, hA, ⟨x0, x1, c 0 _ rfl, c 1 _ rfl, hx⟩, ⟨y0, y1, c 2 _ rfl, c 3 _ rfl, hy⟩, trivial⟩

end Go.Proofs.Ytoihkjnfklogpaa

/- TypeMake of the program and of the reference. -/
namespace Go.Proofs.Ytoihkjnfklogpaa
open Go.RowKit

/-- The sign of a type. -/
def sgn (fn : Bool) : ByteArray := if fn then ⟨#[62]⟩ else ⟨#[42]⟩
def typeT (fn : Bool) (x y : Tree) : Tree := .node ⟨#[]⟩ [.node (sgn fn) [], x, y]
/-- The type of both. -/
def makeOf (fn : Bool) (a b : List UInt8) : Option Tree := match ptype a, ptype b with
  | some x, some y => if (typeT fn x y).typed = true then some (typeT fn x y) else none
  | _, _ => none

theorem type_small (n : Nat) : ∀ t : Tree, t.sz ≤ n → t.good = true → t.isType = true → t.text.length + 4 ≤ 5 * t.size ∧ t.depth ≤ t.size := by
  induction n with
  | zero => intro t h; cases t; simp [Tree.sz] at h
  | succ n ih =>
    intro t hn hg ht
    obtain ⟨a, ps⟩ := t
    rcases isType_cases ht with rfl | ⟨p, x, y, rfl, hx, hy, hp⟩
    · simp only [Tree.isType, decide_eq_true_eq] at ht
      rw [text_leaf, ht]; simp [Tree.size, Tree.depth]
    · simp only [Tree.sz, Tree.szL] at hn
      have hgl := (Tree.good_parts hg).1
      simp only [Tree.goodL, Bool.and_eq_true, and_true] at hgl
      obtain ⟨x1, x2⟩ := ih x (by omega) hgl.2.1 hx
      obtain ⟨y1, y2⟩ := ih y (by omega) hgl.2.2 hy
      have hpl := leaf_of_atom hgl.1 (by rcases hp with h | h <;> rw [h] <;> simp)
      have hpt : p.text.length = 1 := by rw [hpl, text_leaf]; rcases hp with h | h <;> rw [h] <;> rfl
      have hps : p.size = 1 := by rw [hpl]; simp [Tree.size]
      have hpd : p.depth = 0 := by rw [hpl]; simp [Tree.depth]
      have h1 : (Tree.node a [p, x, y]).text.length = 5 + x.text.length + y.text.length := by simp [Tree.text, textL_cons, hpt]; omega
      have h2 : (Tree.node a [p, x, y]).size = 1 + x.size + y.size := by simp [Tree.size, Tree.sizeL, hps]; omega
      have h3 : (Tree.node a [p, x, y]).depth = max x.depth y.depth + 1 := by simp [Tree.depth, Tree.depthL, hpd]
      omega

theorem typed_fits {t : Tree} (hg : t.good = true) (ht : t.typed = true) : t.fits = true := by
  unfold Tree.typed at ht
  simp only [Bool.and_eq_true, decide_eq_true_eq] at ht
  have := type_small _ t (Nat.le_refl _) hg ht.1
  unfold Tree.fits
  simp; omega

theorem ptype_text {t : Tree} (hg : t.good = true) : ptype t.text = if t.typed = true then some t else none := by
  by_cases ht : t.typed = true
  · rw [if_pos ht]; exact ptype_some.2 ⟨parse_of_fits hg (typed_fits hg ht), ht⟩
  · rw [if_neg ht]
    unfold ptype
    by_cases hf : t.fits = true
    · rw [parse_of_fits hg hf]; simp [ht]
    · have := parse_isSome hg
      rw [show t.fits = false by simpa using hf] at this
      cases h : parse t.text with
      | none => rfl
      | some u => rw [h] at this; cases this

theorem typeT_good {fn : Bool} {x y : Tree} (hx : x.good = true) (hy : y.good = true) : (typeT fn x y).good = true := by
  unfold typeT
  simp only [Tree.good, Tree.goodL, hx, hy]
  cases fn <;> simp [sgn] <;> decide

theorem typeT_text (fn : Bool) (x y : Tree) : (typeT fn x y).text = 40 :: ((sgn fn).data.toList ++ 32 :: (x.text ++ 32 :: (y.text ++ [41]))) := by
  unfold typeT
  simp [Tree.text, textL_cons]

theorem makeOf_none1 {fn : Bool} {a b : List UInt8} (h : ptype a = none) : makeOf fn a b = none := by unfold makeOf; rw [h]
theorem makeOf_none2 {fn : Bool} {a b : List UInt8} (h : ptype b = none) : makeOf fn a b = none := by unfold makeOf; rw [h]; cases ptype a <;> rfl
theorem makeOf_some {fn : Bool} {a b : List UInt8} {x y : Tree} (h1 : ptype a = some x) (h2 : ptype b = some y) : makeOf fn a b = if (typeT fn x y).typed = true then some (typeT fn x y) else none := by unfold makeOf; rw [h1, h2]


end Go.Proofs.Ytoihkjnfklogpaa

/- The target type of a type, and the type of what goes on: of the program and of the reference. -/
namespace Go.Proofs.Ytoihkjnfklogpaa
open Go.RowKit

/-- The type of what goes on with a value of a target type. -/
def onw (t : Tree) : Tree := .node ⟨#[]⟩ [.node ⟨#[101]⟩ [], .node ⟨#[]⟩ [.node ⟨#[116]⟩ [], .node ⟨#[]⟩ [.node ⟨#[99]⟩ [], .node ⟨#[118]⟩ [], t], .node ⟨#[118]⟩ []]]

/-- The target type of a type of functions, of both target types. -/
def tgtF (x y : Tree) : Tree := .node ⟨#[]⟩ [.node ⟨#[101]⟩ [], .node ⟨#[]⟩ [.node ⟨#[116]⟩ [], .node ⟨#[]⟩ [.node ⟨#[99]⟩ [], .node ⟨#[118]⟩ [], x, onw y], .node ⟨#[118]⟩ []]]

/-- The target type of a type. -/
def Tree.tgt : Tree → Tree
  | .node _ [p, x, y] => if p.atom.data.toList = [42] then .node ⟨#[]⟩ [.node ⟨#[116]⟩ [], x.tgt, y.tgt] else tgtF x.tgt y.tgt
  | t => t

theorem onw_text (t : Tree) : (onw t).text = [40, 101, 32, 40, 116, 32, 40, 99, 32, 118, 32] ++ (t.text ++ [41, 32, 118, 41, 41]) := by simp [onw, Tree.text, textL_cons]
theorem tgtF_text (x y : Tree) : (tgtF x y).text = [40, 101, 32, 40, 116, 32, 40, 99, 32, 118, 32] ++ (x.text ++ (32 :: ((onw y).text ++ [41, 32, 118, 41, 41]))) := by simp [tgtF, Tree.text, textL_cons]
theorem tgtP_text (x y : Tree) : (Tree.node ⟨#[]⟩ [.node ⟨#[116]⟩ [], x, y]).text = [40, 116, 32] ++ (x.text ++ (32 :: (y.text ++ [41]))) := by simp [Tree.text, textL_cons]

theorem tgt_leaf (a : ByteArray) : (Tree.node a []).tgt = .node a [] := rfl
theorem tgt_three (a : ByteArray) (p x y : Tree) : (Tree.node a [p, x, y]).tgt = if p.atom.data.toList = [42] then .node ⟨#[]⟩ [.node ⟨#[116]⟩ [], x.tgt, y.tgt] else tgtF x.tgt y.tgt := by simp only [Tree.tgt]

theorem leaf_good (c : UInt8) (h : atomB c = true) : (Tree.node ⟨#[c]⟩ []).good = true := by simp [Tree.good, h]
theorem onw_good {t : Tree} (h : t.good = true) : (onw t).good = true := by
  simp only [onw, Tree.good, Tree.goodL, h]; rfl
theorem tgtF_good {x y : Tree} (hx : x.good = true) (hy : y.good = true) : (tgtF x y).good = true := by
  simp only [tgtF, Tree.good, Tree.goodL, hx, onw_good hy]; rfl
theorem tgtP_good {x y : Tree} (hx : x.good = true) (hy : y.good = true) : (Tree.node ⟨#[]⟩ [.node ⟨#[116]⟩ [], x, y]).good = true := by
  simp only [Tree.good, Tree.goodL, hx, hy]; rfl

theorem tgt_facts (n : Nat) : ∀ t : Tree, t.sz ≤ n → t.good = true → t.isType = true → t.tgt.good = true ∧ t.tgt.text.length ≤ 40 * t.size ∧ t.tgt.sz ≤ 30 * t.size := by
  induction n with
  | zero => intro t h; cases t; simp [Tree.sz] at h
  | succ n ih =>
    intro t hn hg ht
    obtain ⟨a, ps⟩ := t
    rcases isType_cases ht with rfl | ⟨p, x, y, rfl, hx, hy, hp⟩
    · simp only [Tree.isType, decide_eq_true_eq] at ht
      rw [tgt_leaf]
      refine ⟨hg, by rw [text_leaf, ht]; simp [Tree.size], by simp [Tree.sz, Tree.szL, Tree.size]⟩
    · simp only [Tree.sz, Tree.szL] at hn
      have hgl := (Tree.good_parts hg).1
      simp only [Tree.goodL, Bool.and_eq_true, and_true] at hgl
      obtain ⟨x1, x2, x3⟩ := ih x (by omega) hgl.2.1 hx
      obtain ⟨y1, y2, y3⟩ := ih y (by omega) hgl.2.2 hy
      have hpl := leaf_of_atom hgl.1 (by rcases hp with h | h <;> rw [h] <;> simp)
      have hps : p.size = 1 := by rw [hpl]; simp [Tree.size]
      have h2 : (Tree.node a [p, x, y]).size = 1 + x.size + y.size := by simp [Tree.size, Tree.sizeL, hps]; omega
      rw [tgt_three, h2]
      by_cases h42 : p.atom.data.toList = [42]
      · rw [if_pos h42]
        refine ⟨tgtP_good x1 y1, by rw [tgtP_text]; simp; omega, by simp [Tree.sz, Tree.szL]; omega⟩
      · rw [if_neg h42]
        refine ⟨tgtF_good x1 y1, by rw [tgtF_text, onw_text]; simp; omega, by simp [tgtF, onw, Tree.sz, Tree.szL]; omega⟩

theorem typed_tgt {s : List UInt8} {t : Tree} (h : ptype s = some t) : t.tgt.good = true ∧ t.tgt.text.length ≤ 640 ∧ t.tgt.sz ≤ 480 := by
  obtain ⟨hg, hty, hz, -, -⟩ := ptype_facts h
  obtain ⟨h1, h2, h3⟩ := tgt_facts _ t (Nat.le_refl _) hg hty
  exact ⟨h1, by omega, by omega⟩


theorem repS_one {w : World} {C : Nat → Prop} {b : Nat} {x0 x1 : Value} {ty : TypeId} {x : Tree} (h : w.heap[b]? = some (.cells #[x0, x1] ty (0, 0))) (hC : C b) (hx : Rep w C x (.agg #[x0, x1])) : RepS w C [x] (some ⟨b, 0, none⟩) 1 := by
  have c : ∀ j v, (#[x0, x1] : Array Value)[j]? = some v → w.cell? ⟨b, j, none⟩ = some v := fun j v hv => by simp only [World.cell?, h]; exact hv
  simp only [RepS, RepC]
  exact ⟨b, 0, rfl, rfl, hC, ⟨x0, x1, c 0 _ rfl, c 1 _ rfl, hx⟩, trivial⟩

theorem repS_three {w : World} {C : Nat → Prop} {b : Nat} {x0 x1 y0 y1 z0 z1 : Value} {ty : TypeId} {x y z : Tree} (h : w.heap[b]? = some (.cells #[x0, x1, y0, y1, z0, z1] ty (0, 0))) (hC : C b) (hx : Rep w C x (.agg #[x0, x1])) (hy : Rep w C y (.agg #[y0, y1])) (hz : Rep w C z (.agg #[z0, z1])) : RepS w C [x, y, z] (some ⟨b, 0, none⟩) 3 := by
  have c : ∀ j v, (#[x0, x1, y0, y1, z0, z1] : Array Value)[j]? = some v → w.cell? ⟨b, j, none⟩ = some v := fun j v hv => by simp only [World.cell?, h]; exact hv
  simp only [RepS, RepC]
  exact ⟨b, 0, rfl, rfl, hC, ⟨x0, x1, c 0 _ rfl, c 1 _ rfl, hx⟩, ⟨y0, y1, c 2 _ rfl, c 3 _ rfl, hy⟩, ⟨z0, z1, c 4 _ rfl, c 5 _ rfl, hz⟩, trivial⟩


end Go.Proofs.Ytoihkjnfklogpaa
