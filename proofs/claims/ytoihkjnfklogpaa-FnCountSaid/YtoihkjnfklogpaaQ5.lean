/- Row2. Repl. PlainU. Several texts in one. -/
import Derived.Test.YtoihkjnfklogpaaQ1
import Derived.Deep.RegionHeld3
import Derived.Deep.RegionWith
import Derived.Deep.AppendLies
import Derived.Test.YtoihkjnfklogpaaMake
import Derived.Test.YtoihkjnfklogpaaPlainS
import Derived.Deep.RegionLaw
/- Rows of trees whose own blocks may lie ahead of the row, too. -/
namespace Go.Proofs.Ytoihkjnfklogpaa
open Go.RowKit

/-- A slice of trees in a row of the call's own, from block 'base' on; the trees' own blocks lie from 'base' on, too, and are not the row. -/
def URow (w : World) (base : Nat) (C : Nat → Prop) (e : TypeId) (v : Value) (ps : List Tree) : Prop :=
  ∃ xs, w.ownsRow base e 2 v ps.length xs ∧ Pairs w (fun b => (C b ∨ base ≤ b) ∧ b < w.heap.size ∧ v.ownBlock ≠ some b) ps xs

theorem URow.nil (w : World) (base : Nat) (C : Nat → Prop) (e : TypeId) : URow w base C e (.slice none 0 0) [] := ⟨[], World.ownsRow_nil _ _ _ _, trivial⟩

theorem URow.keep {w w' : World} {base : Nat} {C : Nat → Prop} {e : TypeId} {v : Value} {ps : List Tree} (h : URow w base C e v ps) (hk : ∀ b, (C b ∨ base ≤ b) → b < w.heap.size → w'.heap[b]? = w.heap[b]?) (hs : w.heap.size ≤ w'.heap.size) :
    URow w' base C e v ps := by
  obtain ⟨xs, h1, h2⟩ := h
  refine ⟨xs, ?_, Pairs.keep (keeps_of_blocks fun b hb => hk b hb.1 hb.2.1) (fun b hb => ⟨hb.1, by omega, hb.2.2⟩) _ _ h2⟩
  refine ⟨h1.1, ?_⟩
  rcases h1.2 with h | ⟨g, cap, cur, hv, hb, hg, r⟩
  · exact .inl h
  · exact .inr ⟨g, cap, cur, hv, hb, by rw [hk g (.inr hb) (Array.getElem?_eq_some_iff.1 hg).1]; exact hg, r⟩

theorem URow.below {w w' : World} {base : Nat} {C : Nat → Prop} {e : TypeId} {v : Value} {ps : List Tree} (h : URow w base C e v ps) (hb : Below w.heap.size w w') : URow w' base C e v ps :=
  h.keep (fun b _ hl => hb.block b hl) hb.size

theorem URow.alloc {w : World} {base : Nat} {C : Nat → Prop} {e : TypeId} {v : Value} {ps : List Tree} (h : URow w base C e v ps) (o : Obj) : URow (w.alloc o) base C e v ps :=
  h.below ((Below.refl _ _).alloc (Nat.le_refl _) _)

theorem URow.setCell {w : World} {base : Nat} {C : Nat → Prop} {e : TypeId} {v : Value} {ps : List Tree} (h : URow w base C e v ps) {a : Addr} (ha : a.block < base) (hc : ¬ C a.block) (u : Value) : URow (w.setCell a u) base C e v ps :=
  h.keep (fun b hb _ => Below.heap_setCell _ _ _ _ (hb.elim (fun h e => hc (e ▸ h)) (fun h => by omega))) (by simp [World.setCell])

theorem URow.drew {w : World} {base : Nat} {C : Nat → Prop} {e : TypeId} {v : Value} {ps : List Tree} (h : URow w base C e v ps) : URow w.drew base C e v ps :=
  h.keep (fun _ _ _ => rfl) (Nat.le_refl _)

/-- The row, read as a tree's parts. -/
theorem URow.rep {w : World} {base : Nat} {C : Nat → Prop} {e : TypeId} {o : Option Addr} {n c : Nat} {ps : List Tree} (h : URow w base C e (.slice o n c) ps) (s : ByteArray) :
    Rep w (fun b => C b ∨ base ≤ b) (.node s ps) (.agg #[.string s, .slice o n c]) := by
  obtain ⟨xs, h1, h2⟩ := h
  simp only [Rep]
  refine ⟨o, n, c, rfl, ?_, ?_⟩
  case refine_2 =>
    rcases h1.2 with ⟨hv, hn⟩ | ⟨g, cap, cur, hv, hb, hg, hnc, hcm, hcs, htake⟩
    · simp only [Value.slice.injEq] at hv; omega
    · simp only [Value.slice.injEq] at hv; omega
  rcases h1.2 with ⟨hv, hn⟩ | ⟨g, cap, cur, hv, hb, hg, hnc, hcm, hcs, htake⟩
  · simp only [Value.slice.injEq] at hv
    obtain ⟨_, rfl, _⟩ := hv
    have : ps = [] := List.eq_nil_of_length_eq_zero hn
    subst this
    exact RepS.nil _ _ _
  · simp only [Value.slice.injEq] at hv
    obtain ⟨rfl, rfl, rfl⟩ := hv
    cases ps with
    | nil => exact RepS.nil _ _ _
    | cons p ps =>
      simp only [RepS]
      refine ⟨g, 0, rfl, by simp, .inr hb, ?_⟩
      refine Pairs.cells (p :: ps) xs 0 (Pairs.keep (fun _ _ _ _ h => h) (fun b hb => hb.1) _ _ h2) fun j u hj => ?_
      have := h1.cells (g := g) rfl j u hj
      rw [show (⟨g, 0, none⟩ : Addr).add j = ⟨g, 0 + j, none⟩ from by unfold Addr.add; split <;> simp_all] at this
      exact this

theorem URow.len {w : World} {base : Nat} {C : Nat → Prop} {e : TypeId} {o : Option Addr} {n c : Nat} {ps : List Tree} (h : URow w base C e (.slice o n c) ps) : n = ps.length := by
  obtain ⟨xs, h1, _⟩ := h
  rcases h1.2 with ⟨hv, hn⟩ | ⟨g, cap, cur, hv, _⟩
  · simp only [Value.slice.injEq] at hv; omega
  · simp only [Value.slice.injEq] at hv; omega

theorem URow.ownLt {w : World} {base : Nat} {C : Nat → Prop} {e : TypeId} {v : Value} {ps : List Tree} (h : URow w base C e v ps) {k : Nat} (hk : v.ownBlock = some k) : base ≤ k ∧ k < w.heap.size := by
  obtain ⟨xs, h1, _⟩ := h
  exact h1.lt k hk

/-- One part is appended. -/
theorem run_append_utree {P : Program} (w : World) (base : Nat) (C : Nat → Prop) (t ty e : TypeId) (i : TypeInfo) (z : Value) (bytes : Nat) (ht : P.underlying t = some (.slice e)) (hi : P.info? e = some i) (hz : i.zero = some z)
    (hsize : i.size = 2) (hby : i.bytes = bytes) (hzs : z.cells.size = 2) (hb64 : bytes ≤ 64) (v : Value) (ps : List Tree) (hrow : URow w base C e v ps) (b off c : Nat) (p : Tree) (x y : Value)
    (hx : w.cell? ⟨b, off, none⟩ = some x) (hy : w.cell? ⟨b, off + 1, none⟩ = some y) (hx1 : x.oneCell' = true) (hy1 : y.oneCell' = true) {A : Nat → Prop} (hp : Rep w A p (.agg #[x, y]))
    (hA : ∀ b, A b → (C b ∨ base ≤ b) ∧ b < w.heap.size ∧ v.ownBlock ≠ some b) (hn : ps.length ≤ 1000000000) (hbase : base ≤ w.heap.size) :
    ∃ g cap w', (Builtin.append_ #[t, t] ty #[v, .slice (some ⟨b, off, none⟩) 1 c]).run P w = .ok (.slice (some ⟨g, 0, none⟩) (ps.length + 1) cap) w' ∧
      URow w' base C e (.slice (some ⟨g, 0, none⟩) (ps.length + 1) cap) (ps ++ [p]) ∧ Below base w w' := by
  obtain ⟨xs, h1, h2⟩ := hrow
  have hadd : ∀ j, (⟨b, off, none⟩ : Addr).add j = ⟨b, off + j, none⟩ := by intro j; unfold Addr.add; split <;> simp_all
  obtain ⟨g, cap, w', hr, k1, k2, k3⟩ := run_append_own2 (P := P) w base t ty e i z 2 bytes ht hi hz hsize hby hzs (by decide) v ps.length xs h1 ⟨b, off, none⟩ 1 c [x, y] rfl
    (by intro j u hj
        rw [hadd]
        match j, hj with
        | 0, hj => simp at hj; subst hj; simpa using hx
        | 1, hj => simp at hj; subst hj; exact hy)
    (by intro u hu; simp at hu; rcases hu with rfl | rfl <;> assumption) (by decide) (by simp only [maxLen]; omega)
    (by have := Nat.mul_le_mul (show ps.length + 1 ≤ 1000000001 by omega) hb64; omega) hbase
  have hlt : ∀ b, v.ownBlock = some b → base ≤ b ∧ b < w.heap.size := h1.lt
  have hne : ∀ b, (C b ∨ base ≤ b) ∧ b < w.heap.size ∧ v.ownBlock ≠ some b → (C b ∨ base ≤ b) ∧ b < w'.heap.size ∧ Value.ownBlock (.slice (some ⟨g, 0, none⟩) (ps.length + 1) cap) ≠ some b := by
    intro b hb
    refine ⟨hb.1, Nat.lt_of_lt_of_le hb.2.1 k2.size, ?_⟩
    simp only [Value.ownBlock, ne_eq, Option.some.injEq]
    intro hgb
    subst hgb
    rcases k3 with k3 | k3
    · exact hb.2.2 k3
    · omega
  have hkeep : Keeps (fun b => (C b ∨ base ≤ b) ∧ b < w.heap.size ∧ v.ownBlock ≠ some b) w w' := keeps_of_blocks fun b hb => k2.block b hb.2.1 (fun e => hb.2.2 e.symm)
  refine ⟨g, cap, w', hr, ⟨xs ++ [x, y], by simpa using k1, Pairs.snoc ?_ _ _ (Pairs.keep hkeep hne _ _ h2)⟩, ?_⟩
  · exact Rep.weak hne _ _ (Rep.keep hkeep _ _ (Rep.weak hA _ _ hp))
  · exact ((Below.refl base w).grown k2 hbase (fun k hk => (hlt k hk).1))

theorem wpList_append_utree {P : Program} {ops : Array Oper} {rest : List Oper} {o : Oper} {a : Act} {Q : Exit → Act → World → Prop} {w : World} (hgd : o.guard = none) (s x0 : Operand) (t : TypeId)
    (ho : o.op = .call { callee := .builtin .append, args := #[s, x0], argTypes := #[t, t] })
    (base : Nat) (C : Nat → Prop) (e : TypeId) (i : TypeInfo) (z : Value) (bytes : Nat) (ht : P.underlying t = some (.slice e)) (hi : P.info? e = some i) (hz : i.zero = some z)
    (hsize : i.size = 2) (hby : i.bytes = bytes) (hzs : z.cells.size = 2) (hb64 : bytes ≤ 64) (v : Value) (hs : a.eval s = v) (ps : List Tree) (hrow : URow w base C e v ps) (b off c : Nat) (hx0 : a.eval x0 = .slice (some ⟨b, off, none⟩) 1 c) (p : Tree) (x y : Value)
    (hx : w.cell? ⟨b, off, none⟩ = some x) (hy : w.cell? ⟨b, off + 1, none⟩ = some y) (hx1 : x.oneCell' = true) (hy1 : y.oneCell' = true) {A : Nat → Prop} (hp : Rep w A p (.agg #[x, y]))
    (hA : ∀ b, A b → (C b ∨ base ≤ b) ∧ b < w.heap.size ∧ v.ownBlock ≠ some b) (hn : ps.length ≤ 1000000000) (hbase : base ≤ w.heap.size)
    (h : ∀ g cap w', URow w' base C e (.slice (some ⟨g, 0, none⟩) (ps.length + 1) cap) (ps ++ [p]) → Below base w w' → wpList P ops Q rest (a.put o.dst (.slice (some ⟨g, 0, none⟩) (ps.length + 1) cap)) w') : wpList P ops Q (o :: rest) a w := by
  obtain ⟨g, cap, w', hr, k1, k2⟩ := run_append_utree (P := P) w base C t o.type e i z bytes ht hi hz hsize hby hzs hb64 v ps hrow b off c p x y hx hy hx1 hy1 hp hA hn hbase
  refine wpList_plain hgd fun K hK => ?_
  unfold Oper.wp execOp
  simp only [ho, resolve, invoke, builtin, Sem.run_bind, Sem.run_pure, Result.andThen_ok, List.map_toArray, List.map_cons, List.map_nil, hs, hx0, hr]
  exact hK _ _ (h g cap w' k1 k2)

theorem step_append_utree {P : Program} {ops : Array Oper} {o : Oper} {a : Act} {K : Act → World → Prop} {Q : Exit → Act → World → Prop} {E : Prop} {w : World} (hgd : o.guard = none) (s x0 : Operand) (t : TypeId)
    (ho : o.op = .call { callee := .builtin .append, args := #[s, x0], argTypes := #[t, t] })
    (base : Nat) (C : Nat → Prop) (e : TypeId) (i : TypeInfo) (z : Value) (bytes : Nat) (ht : P.underlying t = some (.slice e)) (hi : P.info? e = some i) (hz : i.zero = some z)
    (hsize : i.size = 2) (hby : i.bytes = bytes) (hzs : z.cells.size = 2) (hb64 : bytes ≤ 64) (v : Value) (hs : a.eval s = v) (ps : List Tree) (hrow : URow w base C e v ps) (b off c : Nat) (hx0 : a.eval x0 = .slice (some ⟨b, off, none⟩) 1 c) (p : Tree) (x y : Value)
    (hx : w.cell? ⟨b, off, none⟩ = some x) (hy : w.cell? ⟨b, off + 1, none⟩ = some y) (hx1 : x.oneCell' = true) (hy1 : y.oneCell' = true) {A : Nat → Prop} (hp : Rep w A p (.agg #[x, y]))
    (hA : ∀ b, A b → (C b ∨ base ≤ b) ∧ b < w.heap.size ∧ v.ownBlock ≠ some b) (hn : ps.length ≤ 1000000000) (hbase : base ≤ w.heap.size)
    (h : ∀ g cap w', URow w' base C e (.slice (some ⟨g, 0, none⟩) (ps.length + 1) cap) (ps ++ [p]) → Below base w w' → K (a.put o.dst (.slice (some ⟨g, 0, none⟩) (ps.length + 1) cap)) w') : if Region.wanted o (yielded ops a.tmps) = true then Oper.wp P o a w K Q else E := by
  have hw : Region.wanted o (yielded ops a.tmps) = true := by simp [Region.wanted, hgd]
  rw [if_pos hw]
  obtain ⟨g, cap, w', hr, k1, k2⟩ := run_append_utree (P := P) w base C t o.type e i z bytes ht hi hz hsize hby hzs hb64 v ps hrow b off c p x y hx hy hx1 hy1 hp hA hn hbase
  unfold Oper.wp execOp
  simp only [ho, resolve, invoke, builtin, Sem.run_bind, Sem.run_pure, Result.andThen_ok, List.map_toArray, List.map_cons, List.map_nil, hs, hx0, hr]
  exact h g cap w' k1 k2

/-- The same, the part in the box of one element that the call of append has just laid. -/
theorem wpList_append_ubox {P : Program} {ops : Array Oper} {rest : List Oper} {o : Oper} {a : Act} {Q : Exit → Act → World → Prop} {W : World} (hgd : o.guard = none) (s x0 : Operand) (t : TypeId)
    (ho : o.op = .call { callee := .builtin .append, args := #[s, x0], argTypes := #[t, t] })
    (base : Nat) (C : Nat → Prop) (e : TypeId) (i : TypeInfo) (z : Value) (bytes : Nat) (ht : P.underlying t = some (.slice e)) (hi : P.info? e = some i) (hz : i.zero = some z)
    (hsize : i.size = 2) (hby : i.bytes = bytes) (hzs : z.cells.size = 2) (hb64 : bytes ≤ 64) (v : Value) (hs : a.eval s = v) (ps : List Tree) (b c ty : Nat) (hx0 : a.eval x0 = .slice (some ⟨b, 0, none⟩) 1 c) (hb : b = W.heap.size) (p : Tree) (x y : Value)
    (hx1 : x.oneCell' = true) (hy1 : y.oneCell' = true) {A : Nat → Prop} (hrow : URow W base C e v ps) (hp : Rep W A p (.agg #[x, y]))
    (hA : ∀ b, A b → (C b ∨ base ≤ b) ∧ b < W.heap.size ∧ v.ownBlock ≠ some b) (hn : ps.length ≤ 1000000000) (hbase : base ≤ W.heap.size)
    (h : ∀ g cap w', URow w' base C e (.slice (some ⟨g, 0, none⟩) (ps.length + 1) cap) (ps ++ [p]) → Below base W w' → wpList P ops Q rest (a.put o.dst (.slice (some ⟨g, 0, none⟩) (ps.length + 1) cap)) w') :
    wpList P ops Q (o :: rest) a (W.alloc (.cells #[x, y] ty)) := by
  subst hb
  obtain ⟨c1, c2⟩ := two_new W x y ty
  refine wpList_append_utree hgd s x0 t ho base C e i z bytes ht hi hz hsize hby hzs hb64 v hs ps (hrow.alloc _) W.heap.size 0 c hx0 p x y c1 c2 hx1 hy1 (Rep.keep (Keeps.alloc _ _ _) _ _ hp) (fun b hb => ?_) hn (by simp; omega) fun g cap w' k1 k2 => h g cap w' k1 (((Below.refl base W).alloc hbase _).trans k2)
  have := hA b hb
  exact ⟨this.1, by simp; omega, this.2.2⟩
end Go.Proofs.Ytoihkjnfklogpaa

/- Replacing atoms of a form by a form: of the program (with its two functions that are handed on) and of the reference. -/
namespace Go.Proofs.Ytoihkjnfklogpaa
open Go.RowKit

/-- A text is an atom, however long. -/
def isAtomL (l : List UInt8) : Bool := decide (l ≠ []) && l.all atomB



/-- What putting a form hands back. -/
def PutR (C : Nat → Prop) (t : Tree) (w : World) (e : Ending) (w' : World) : Prop :=
  ∃ a o l c, e = .returned (.agg #[.string a, .slice o l c]) ∧ Rep w' (fun b => C b ∨ w.heap.size ≤ b) t (.agg #[.string a, .slice o l c]) ∧ Below w.heap.size w w'


end Go.Proofs.Ytoihkjnfklogpaa

/- Whether the text of a form that was made is a form; the lengths of forms with other forms for atoms. No program is in sight. -/
namespace Go.Proofs.Ytoihkjnfklogpaa
open Go.RowKit

/-- How deep the brackets of a text nest. -/
def nestS (x : Nat × Nat) (c : UInt8) : Nat × Nat := if c = 40 then (x.1 + 1, max x.2 (x.1 + 1)) else if c = 41 then (x.1 - 1, x.2) else x

theorem nest_atoms : ∀ (l : List UInt8) (x : Nat × Nat), l.all atomB = true → l.foldl nestS x = x
  | [], _, _ => rfl
  | c :: l, x, h => by
    simp only [List.all_cons, Bool.and_eq_true] at h
    have h40 : c ≠ 40 := by rintro rfl; exact absurd h.1 (by decide)
    have h41 : c ≠ 41 := by rintro rfl; exact absurd h.1 (by decide)
    simp only [List.foldl_cons]
    rw [show nestS x c = x from by unfold nestS; rw [if_neg h40, if_neg h41]]
    exact nest_atoms l x h.2

mutual
theorem nest_text : ∀ (t : Tree) (d m : Nat), t.good = true → d ≤ m → t.text.foldl nestS (d, m) = (d, max m (d + t.depth))
  | .node a ps, d, m, h, hm => by
    by_cases he : ps = []
    · subst he
      simp [Tree.good] at h
      rw [text_leaf, nest_atoms _ _ (by simpa using h.2)]
      simp [Tree.depth]; omega
    · obtain ⟨h1, _⟩ := Tree.good_parts h
      have hi : ps.isEmpty = false := by simpa using he
      have e : (Tree.node a ps).text = 40 :: Tree.textL ps := by simp [Tree.text, he]
      have hd : (Tree.node a ps).depth = Tree.depthL ps + 1 := by simp [Tree.depth, he]
      rw [e, hd, List.foldl_cons]
      rw [show nestS (d, m) 40 = (d + 1, max m (d + 1)) from rfl]
      rw [nest_textL ps (d + 1) (max m (d + 1)) he h1 (by omega)]
      simp; omega
theorem nest_textL : ∀ (ps : List Tree) (d m : Nat), ps ≠ [] → Tree.goodL ps = true → d ≤ m → (Tree.textL ps).foldl nestS (d, m) = (d - 1, max m (d + Tree.depthL ps))
  | [], _, _, h, _, _ => absurd rfl h
  | p :: ps, d, m, _, hg, hm => by
    simp only [Tree.goodL, Bool.and_eq_true] at hg
    rw [textL_cons, List.foldl_append, nest_text p d m hg.1 hm]
    by_cases he : ps = []
    · subst he
      simp [nestS, Tree.depthL]
    · have hi : ps.isEmpty = false := by simpa using he
      rw [hi]
      simp only [Bool.false_eq_true, if_false, List.foldl_cons]
      rw [show nestS (d, max m (d + p.depth)) 32 = (d, max m (d + p.depth)) from rfl]
      rw [nest_textL ps d _ he hg.2 (by omega)]
      simp only [Tree.depthL, Prod.mk.injEq, true_and]; omega
end

theorem depth_of_text {t u : Tree} (ht : t.good = true) (hu : u.good = true) (h : t.text = u.text) : t.depth = u.depth := by
  have h1 := nest_text t 0 0 ht (Nat.le_refl _)
  have h2 := nest_text u 0 0 hu (Nat.le_refl _)
  rw [h, h2] at h1
  simp at h1; omega

/-- A form that was made is a form where it is not too deep nor too long. -/
def Tree.fits (u : Tree) : Bool := decide (u.depth ≤ 60) && decide (u.text.length ≤ 12000)

theorem parse_of_fits {u : Tree} (hu : u.good = true) (h : u.fits = true) : parse u.text = some u := by
  unfold Tree.fits at h
  simp only [Bool.and_eq_true, decide_eq_true_eq] at h
  exact parse_text hu h.1 h.2

theorem parse_isSome {u : Tree} (hu : u.good = true) : (parse u.text).isSome = u.fits := by
  by_cases h : u.fits = true
  · rw [parse_of_fits hu h, h]; rfl
  · have h' : u.fits = false := by simpa using h
    rw [h']
    cases hp : parse u.text with
    | none => rfl
    | some t =>
      obtain ⟨h1, h2, h3, h4⟩ := (parse_iff _ _).1 hp
      exfalso
      apply h
      unfold Tree.fits
      rw [← depth_of_text h2 hu h1.symm]
      simp [h3, h4]

theorem fits_sz {u : Tree} (hu : u.good = true) (h : u.text.length ≤ 12000) : u.sz ≤ 24000 := by
  have := Tree.sz_le_text u hu; omega

end Go.Proofs.Ytoihkjnfklogpaa
