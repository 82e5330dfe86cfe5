/- Rows of trees: several appended at once, one part replaced. -/
import Derived.Test.YtoihkjnfklogpaaRow2
import Derived.Lib.BufferMore
namespace Go.Proofs.Ytoihkjnfklogpaa
open Go.RowKit

theorem RepC.pairs {w : World} {A : Nat → Prop} {b : Nat} : ∀ (ps : List Tree) (off : Nat), RepC w A ps b off →
    ∃ xs, Pairs w A ps xs ∧ xs.length = ps.length * 2 ∧ (∀ j u, xs[j]? = some u → w.cell? ⟨b, off + j, none⟩ = some u) ∧ ∀ u ∈ xs, u.oneCell' = true
  | [], _, _ => ⟨[], trivial, rfl, fun _ _ h => by simp at h, fun _ h => by simp at h⟩
  | p :: ps, off, h => by
    obtain ⟨o, n, c, hx, hy, hr, hps⟩ := h.uncons
    obtain ⟨xs, h1, h2, h3, h4⟩ := RepC.pairs ps (off + 2) hps
    refine ⟨.string p.atom :: .slice o n c :: xs, ⟨hr, h1⟩, by simp [h2]; omega, ?_, ?_⟩
    · intro j u hj
      match j, hj with
      | 0, hj => simp at hj; subst hj; simpa using hx
      | 1, hj => simp at hj; subst hj; exact hy
      | j + 2, hj =>
        have := h3 j u (by simpa using hj)
        rw [show off + (j + 2) = off + 2 + j from by omega]; exact this
    · intro u hu
      simp only [List.mem_cons] at hu
      rcases hu with rfl | rfl | hu
      · rfl
      · rfl
      · exact h4 u hu

theorem Pairs.append {w : World} {A : Nat → Prop} {qs : List Tree} {ys : List Value} (hq : Pairs w A qs ys) : ∀ (ps : List Tree) (xs : List Value), Pairs w A ps xs → Pairs w A (ps ++ qs) (xs ++ ys)
  | [], [], _ => hq
  | [], _ :: _, hp => by simp [Pairs] at hp
  | _ :: _, [], hp => by simp [Pairs] at hp
  | _ :: _, [_], hp => by simp [Pairs] at hp
  | _ :: ps, _ :: _ :: xs, hp => ⟨hp.1, Pairs.append hq ps xs hp.2⟩

/-- Several parts are appended at once. -/
theorem wpList_append_trees {P : Program} {ops : Array Oper} {rest : List Oper} {o : Oper} {a : Act} {Q : Exit → Act → World → Prop} {w : World} (hgd : o.guard = none) (s x0 : Operand) (t : TypeId)
    (ho : o.op = .call { callee := .builtin .append, args := #[s, x0], argTypes := #[t, t] })
    (base : Nat) (C : Nat → Prop) (e : TypeId) (i : TypeInfo) (z : Value) (bytes : Nat) (ht : P.underlying t = some (.slice e)) (hi : P.info? e = some i) (hz : i.zero = some z)
    (hsize : i.size = 2) (hby : i.bytes = bytes) (hzs : z.cells.size = 2) (hb64 : bytes ≤ 64) (v : Value) (hs : a.eval s = v) (ps : List Tree) (hrow : URow w base C e v ps) (b off m c : Nat) (hx0 : a.eval x0 = .slice (some ⟨b, off, none⟩) m c) (qs : List Tree) (hm : m = qs.length)
    {A : Nat → Prop} (hq : RepC w A qs b off) (hqn : qs ≠ [])
    (hA : ∀ b, A b → (C b ∨ base ≤ b) ∧ b < w.heap.size ∧ v.ownBlock ≠ some b) (hn : ps.length + qs.length ≤ 1000000000) (hbase : base ≤ w.heap.size)
    (h : ∀ g cap w', URow w' base C e (.slice (some ⟨g, 0, none⟩) (ps.length + m) cap) (ps ++ qs) → Below base w w' → wpList P ops Q rest (a.put o.dst (.slice (some ⟨g, 0, none⟩) (ps.length + m) cap)) w') : wpList P ops Q (o :: rest) a w := by
  subst hm
  obtain ⟨xs, h1, h2⟩ := hrow
  obtain ⟨news, n1, n2, n3, n4⟩ := RepC.pairs qs off hq
  have hadd : ∀ j, (⟨b, off, none⟩ : Addr).add j = ⟨b, off + j, none⟩ := by intro j; unfold Addr.add; split <;> simp_all
  obtain ⟨g, cap, w', hr, k1, k2, k3⟩ := run_append_own2 (P := P) w base t o.type e i z 2 bytes ht hi hz hsize hby hzs (by decide) v ps.length xs h1 ⟨b, off, none⟩ qs.length c news n2
    (by intro j u hj; rw [hadd]; exact n3 j u hj) n4 (by have := List.length_pos_iff.2 hqn; omega) (by simp only [maxLen]; omega)
    (by have := Nat.mul_le_mul (show ps.length + qs.length ≤ 1000000001 by omega) hb64; omega) hbase
  have hlt : ∀ b, v.ownBlock = some b → base ≤ b ∧ b < w.heap.size := h1.lt
  have hne : ∀ b, (C b ∨ base ≤ b) ∧ b < w.heap.size ∧ v.ownBlock ≠ some b → (C b ∨ base ≤ b) ∧ b < w'.heap.size ∧ Value.ownBlock (.slice (some ⟨g, 0, none⟩) (ps.length + qs.length) cap) ≠ some b := by
    intro b hb
    refine ⟨hb.1, Nat.lt_of_lt_of_le hb.2.1 k2.size, ?_⟩
    simp only [Value.ownBlock, ne_eq, Option.some.injEq]
    intro hgb
    subst hgb
    rcases k3 with k3 | k3
    · exact hb.2.2 k3
    · omega
  have hkeep : Keeps (fun b => (C b ∨ base ≤ b) ∧ b < w.heap.size ∧ v.ownBlock ≠ some b) w w' := keeps_of_blocks fun b hb => k2.block b hb.2.1 (fun e => hb.2.2 e.symm)
  have hrow' : URow w' base C e (.slice (some ⟨g, 0, none⟩) (ps.length + qs.length) cap) (ps ++ qs) :=
    ⟨xs ++ news, by simpa using k1, Pairs.append (Pairs.keep hkeep hne _ _ (Pairs.keep (fun _ _ _ _ h => h) hA _ _ n1)) _ _ (Pairs.keep hkeep hne _ _ h2)⟩
  have hbel : Below base w w' := (Below.refl base w).grown k2 hbase (fun k hk => (hlt k hk).1)
  refine wpList_plain hgd fun K hK => ?_
  unfold Oper.wp execOp
  simp only [ho, resolve, invoke, builtin, Sem.run_bind, Sem.run_pure, Result.andThen_ok, List.map_toArray, List.map_cons, List.map_nil, hs, hx0, hr]
  exact hK _ _ (h g cap w' hrow' hbel)

theorem repS_two {w : World} {A : Nat → Prop} {b : Nat} {x0 x1 y0 y1 : Value} {ty : TypeId} {x y : Tree} (h : w.heap[b]? = some (.cells #[x0, x1, y0, y1] ty (0, 0))) (hA : A b) (hx : Rep w A x (.agg #[x0, x1])) (hy : Rep w A y (.agg #[y0, y1])) : RepS w A [x, y] (some ⟨b, 0, none⟩) 2 := by
  have c : ∀ j v, (#[x0, x1, y0, y1] : Array Value)[j]? = some v → w.cell? ⟨b, j, none⟩ = some v := fun j v hv => by simp only [World.cell?, h]; exact hv
  simp only [RepS, RepC]
  exact ⟨b, 0, rfl, rfl, hA, ⟨x0, x1, c 0 _ rfl, c 1 _ rfl, hx⟩, ⟨y0, y1, c 2 _ rfl, c 3 _ rfl, hy⟩, trivial⟩


theorem Pairs.set {w : World} {A : Nat → Prop} {u : Tree} {x y : Value} (hu : Rep w A u (.agg #[x, y])) : ∀ (ps : List Tree) (xs : List Value) (i : Nat), Pairs w A ps xs → i < ps.length → Pairs w A (ps.set i u) ((xs.set (2 * i) x).set (2 * i + 1) y)
  | [], _, _, _, h => by simp at h
  | _ :: _, [], _, hp, _ => by simp [Pairs] at hp
  | _ :: _, [_], _, hp, _ => by simp [Pairs] at hp
  | p :: ps, a :: b :: xs, 0, hp, _ => ⟨hu, hp.2⟩
  | p :: ps, a :: b :: xs, i + 1, hp, h => by
    have := Pairs.set hu ps xs i hp.2 (by simpa using h)
    rw [show 2 * (i + 1) = 2 * i + 1 + 1 by omega]
    simp only [List.set_cons_succ]
    exact ⟨hp.1, this⟩

theorem Pairs.length {w : World} {A : Nat → Prop} : ∀ (ps : List Tree) (xs : List Value), Pairs w A ps xs → xs.length = 2 * ps.length
  | [], [], _ => rfl
  | [], _ :: _, hp => by simp [Pairs] at hp
  | _ :: _, [], hp => by simp [Pairs] at hp
  | _ :: _, [_], hp => by simp [Pairs] at hp
  | _ :: ps, _ :: _ :: xs, hp => by have := Pairs.length ps xs hp.2; simp; omega

/-- Only one block has turned, and it is not of the row. -/
theorem URow.grown {w w' : World} {base rb : Nat} {C : Nat → Prop} {e : TypeId} {v : Value} {ps : List Tree} (h : URow w base C e v ps) (hg : w.grownBy w' (some rb)) (hr : rb < base) (hc : ¬ C rb) : URow w' base C e v ps :=
  h.keep (fun b hb hl => hg.block b hl (fun e => by
    have : b = rb := Option.some.inj e
    subst this
    rcases hb with hb | hb
    · exact hc hb
    · omega)) hg.size

/-- A part is replaced. -/
theorem URow.set {w : World} {base g n cap i : Nat} {C : Nat → Prop} {e : TypeId} {ps : List Tree} (h : URow w base C e (.slice (some ⟨g, 0, none⟩) n cap) ps) (hi : i < ps.length) {u : Tree} {x y : Value} {A : Nat → Prop}
    (hu : Rep w A u (.agg #[x, y])) (hA : ∀ b, A b → (C b ∨ base ≤ b) ∧ b < w.heap.size ∧ b ≠ g) :
    URow ((w.setCell ⟨g, 2 * i, none⟩ x).setCell ⟨g, 2 * i + 1, none⟩ y) base C e (.slice (some ⟨g, 0, none⟩) n cap) (ps.set i u) := by
  obtain ⟨xs, ⟨h1, h2⟩, h3⟩ := h
  rcases h2 with ⟨h2, -⟩ | ⟨g', cap', cur, hv, hb, hg, hn, hcm, hcs, htk⟩
  · cases h2
  simp only [Value.slice.injEq, Option.some.injEq, Addr.mk.injEq, true_and, and_true] at hv
  obtain ⟨rfl, rfl, rfl⟩ := hv
  have hl := Pairs.length _ _ h3
  have hk : ∀ b, b ≠ g → ((w.setCell ⟨g, 2 * i, none⟩ x).setCell ⟨g, 2 * i + 1, none⟩ y).heap[b]? = w.heap[b]? := fun b hb =>
    (Below.heap_setCell _ _ _ _ hb).trans (Below.heap_setCell _ _ _ _ hb)
  have hheap : ((w.setCell ⟨g, 2 * i, none⟩ x).setCell ⟨g, 2 * i + 1, none⟩ y).heap[g]? = some (.cells ((cur.setIfInBounds (2 * i) x).setIfInBounds (2 * i + 1) y) e (0, 0)) := by
    have e1 := Lib.heap_setCell_same (i := 2 * i) hg x
    exact Lib.heap_setCell_same (i := 2 * i + 1) e1 y
  have hsz : ((w.setCell ⟨g, 2 * i, none⟩ x).setCell ⟨g, 2 * i + 1, none⟩ y).heap.size = w.heap.size := by simp [World.setCell]
  have hls : (ps.set i u).length = ps.length := List.length_set
  unfold URow
  rw [hls]
  refine ⟨(xs.set (2 * i) x).set (2 * i + 1) y, ⟨by simp [h1], .inr ⟨g, cap, _, rfl, hb, hheap, hn, hcm, by simpa using hcs, ?_⟩⟩, ?_⟩
  · have e2 : ((cur.setIfInBounds (2 * i) x).setIfInBounds (2 * i + 1) y).toList = (cur.toList.set (2 * i) x).set (2 * i + 1) y := by simp
    rw [e2, List.take_set, List.take_set, htk]
  · have hkeep : Keeps (fun b => (C b ∨ base ≤ b) ∧ b < w.heap.size ∧ (Value.slice (some ⟨g, 0, none⟩) ps.length cap).ownBlock ≠ some b) w ((w.setCell ⟨g, 2 * i, none⟩ x).setCell ⟨g, 2 * i + 1, none⟩ y) := keeps_of_blocks fun b hb => hk b (fun e => hb.2.2 (by rw [e]; rfl))
    have hw : ∀ b, (C b ∨ base ≤ b) ∧ b < w.heap.size ∧ (Value.slice (some ⟨g, 0, none⟩) ps.length cap).ownBlock ≠ some b → (C b ∨ base ≤ b) ∧ b < ((w.setCell ⟨g, 2 * i, none⟩ x).setCell ⟨g, 2 * i + 1, none⟩ y).heap.size ∧ (Value.slice (some ⟨g, 0, none⟩) ps.length cap).ownBlock ≠ some b := fun b hb => ⟨hb.1, by rw [hsz]; exact hb.2.1, hb.2.2⟩
    refine Pairs.set ?_ _ _ i (Pairs.keep hkeep hw _ _ h3) hi
    refine Rep.weak hw _ _ (Rep.keep hkeep _ _ (Rep.weak (fun b hb => ?_) _ _ hu))
    have := hA b hb
    exact ⟨this.1, this.2.1, fun e => this.2.2 (by simp only [Value.ownBlock, Option.some.injEq] at e; exact e.symm)⟩

/-- The cells of a part, in the row's own block. -/
theorem URow.blk {w : World} {base n cap g : Nat} {C : Nat → Prop} {e : TypeId} {ps : List Tree} (h : URow w base C e (.slice (some ⟨g, 0, none⟩) n cap) ps) : ∃ cur, w.heap[g]? = some (.cells cur e (0, 0)) ∧ cur.size = cap * 2 ∧ n ≤ cap ∧ base ≤ g ∧ n = ps.length := by
  have hn := h.len
  obtain ⟨xs, ⟨h1, h2⟩, h3⟩ := h
  rcases h2 with ⟨h2, -⟩ | ⟨g', cap', cur, hv, hb, hg, hn', hcm, hcs, htk⟩
  · cases h2
  simp only [Value.slice.injEq, Option.some.injEq, Addr.mk.injEq, true_and, and_true] at hv
  obtain ⟨rfl, rfl, rfl⟩ := hv
  exact ⟨cur, hg, hcs, by omega, hb, hn⟩
end Go.Proofs.Ytoihkjnfklogpaa
