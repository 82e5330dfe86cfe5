/- The representation of trees (forms) in the model's memory, and how it is carried from world to world. -/
import Derived.Test.YtpamfjbgnpmmoaaGreatDoorPlain
import Derived.WalkKit
import Derived.WalkSpells
namespace Go.Proofs.YtpamfjbgnpmmoaaGreatDoor
open Go.RowKit

/- A value is a tree in a world; all blocks that it goes through are in A. -/
mutual
def Rep (w : World) (A : Nat → Prop) : Tree → Value → Prop
  | .node a ps, v => ∃ o n c, v = .agg #[.string a, .slice o n c] ∧ RepS w A ps o n ∧ n ≤ c
def RepS (w : World) (A : Nat → Prop) : List Tree → Option Addr → Nat → Prop
  | [], _, n => n = 0
  | p :: ps, o, n => ∃ b off, o = some ⟨b, off, none⟩ ∧ n = ps.length + 1 ∧ A b ∧ RepC w A (p :: ps) b off
def RepC (w : World) (A : Nat → Prop) : List Tree → Nat → Nat → Prop
  | [], _, _ => True
  | p :: ps, b, off => (∃ x y, w.cell? ⟨b, off, none⟩ = some x ∧ w.cell? ⟨b, off + 1, none⟩ = some y ∧ Rep w A p (.agg #[x, y])) ∧ RepC w A ps b (off + 2)
end

/-- From w to w' no cell of a block in A has turned. -/
def Keeps (A : Nat → Prop) (w w' : World) : Prop := ∀ b o v, A b → w.cell? ⟨b, o, none⟩ = some v → w'.cell? ⟨b, o, none⟩ = some v

mutual
theorem Rep.keep {w w' : World} {A : Nat → Prop} (h : Keeps A w w') : ∀ (t : Tree) (v : Value), Rep w A t v → Rep w' A t v
  | .node _ ps, _, hr => by
    simp only [Rep] at hr ⊢
    obtain ⟨o, n, c, hv, hs, hcap⟩ := hr
    exact ⟨o, n, c, hv, RepS.keep h ps o n hs, hcap⟩
theorem RepS.keep {w w' : World} {A : Nat → Prop} (h : Keeps A w w') : ∀ (ps : List Tree) (o : Option Addr) (n : Nat), RepS w A ps o n → RepS w' A ps o n
  | [], _, _, hr => by simpa only [RepS] using hr
  | p :: ps, o, n, hr => by
    simp only [RepS] at hr ⊢
    obtain ⟨b, off, ho, hn, hA, hc⟩ := hr
    exact ⟨b, off, ho, hn, hA, RepC.keep h hA (p :: ps) off hc⟩
theorem RepC.keep {w w' : World} {A : Nat → Prop} (h : Keeps A w w') {b : Nat} (hA : A b) : ∀ (ps : List Tree) (off : Nat), RepC w A ps b off → RepC w' A ps b off
  | [], _, _ => by simp only [RepC]
  | p :: ps, off, hr => by
    simp only [RepC] at hr ⊢
    obtain ⟨⟨x, y, hx, hy, hp⟩, hps⟩ := hr
    exact ⟨⟨x, y, h _ _ _ hA hx, h _ _ _ hA hy, Rep.keep h p _ hp⟩, RepC.keep h hA ps _ hps⟩
end

mutual
theorem Rep.weak {w : World} {A A' : Nat → Prop} (h : ∀ b, A b → A' b) : ∀ (t : Tree) (v : Value), Rep w A t v → Rep w A' t v
  | .node _ ps, _, hr => by
    simp only [Rep] at hr ⊢
    obtain ⟨o, n, c, hv, hs, hcap⟩ := hr
    exact ⟨o, n, c, hv, RepS.weak h ps o n hs, hcap⟩
theorem RepS.weak {w : World} {A A' : Nat → Prop} (h : ∀ b, A b → A' b) : ∀ (ps : List Tree) (o : Option Addr) (n : Nat), RepS w A ps o n → RepS w A' ps o n
  | [], _, _, hr => by simpa only [RepS] using hr
  | p :: ps, o, n, hr => by
    simp only [RepS] at hr ⊢
    obtain ⟨b, off, ho, hn, hA, hc⟩ := hr
    exact ⟨b, off, ho, hn, h _ hA, RepC.weak h (p :: ps) b off hc⟩
theorem RepC.weak {w : World} {A A' : Nat → Prop} (h : ∀ b, A b → A' b) : ∀ (ps : List Tree) (b off : Nat), RepC w A ps b off → RepC w A' ps b off
  | [], _, _, _ => by simp only [RepC]
  | p :: ps, b, off, hr => by
    simp only [RepC] at hr ⊢
    obtain ⟨⟨x, y, hx, hy, hp⟩, hps⟩ := hr
    exact ⟨⟨x, y, hx, hy, Rep.weak h p _ hp⟩, RepC.weak h ps b _ hps⟩
end

theorem RepC.get {w : World} {A : Nat → Prop} : ∀ (ps : List Tree) (b off : Nat), RepC w A ps b off → ∀ i p, ps[i]? = some p →
    ∃ x y, w.cell? ⟨b, off + i * 2, none⟩ = some x ∧ w.cell? ⟨b, off + i * 2 + 1, none⟩ = some y ∧ Rep w A p (.agg #[x, y])
  | [], _, _, _, i, p, h => by simp at h
  | q :: ps, b, off, hr, i, p, h => by
    simp only [RepC] at hr
    obtain ⟨⟨x, y, hx, hy, hq⟩, hps⟩ := hr
    match i, h with
    | 0, h => simp at h; subst h; exact ⟨x, y, by simpa using hx, by simpa using hy, hq⟩
    | i + 1, h =>
      have := RepC.get ps b (off + 2) hps i p (by simpa using h)
      rw [show off + 2 + i * 2 = off + (i + 1) * 2 from by omega] at this
      exact this

theorem RepC.snoc {w : World} {A : Nat → Prop} : ∀ (ps : List Tree) (b off : Nat) (p : Tree) (x y : Value), RepC w A ps b off →
    w.cell? ⟨b, off + ps.length * 2, none⟩ = some x → w.cell? ⟨b, off + ps.length * 2 + 1, none⟩ = some y → Rep w A p (.agg #[x, y]) → RepC w A (ps ++ [p]) b off
  | [], b, off, p, x, y, _, hx, hy, hp => by
    simp only [List.nil_append, RepC, and_true]
    exact ⟨x, y, by simpa using hx, by simpa using hy, hp⟩
  | q :: ps, b, off, p, x, y, hr, hx, hy, hp => by
    simp only [List.cons_append, RepC] at hr ⊢
    refine ⟨hr.1, RepC.snoc ps b (off + 2) p x y hr.2 ?_ ?_ hp⟩
    · rw [show off + 2 + ps.length * 2 = off + (q :: ps).length * 2 from by simp; omega]; exact hx
    · rw [show off + 2 + ps.length * 2 = off + (q :: ps).length * 2 from by simp; omega]; exact hy

theorem lt_of_cell {w : World} {a : Addr} {v : Value} (h : w.cell? a = some v) : a.block < w.heap.size := by
  unfold World.cell? at h
  rcases Nat.lt_or_ge a.block w.heap.size with hl | hl
  · exact hl
  · simp [Array.getElem?_eq_none hl] at h

theorem Keeps.below {A : Nat → Prop} {w w' : World} (h : Below w.heap.size w w') : Keeps A w w' :=
  fun _ _ _ _ hc => (h.cell (lt_of_cell hc)).trans hc

theorem Keeps.below' {A : Nat → Prop} {B : Nat} {w w' : World} (h : Below B w w') (hA : ∀ b, A b → b < B) : Keeps A w w' :=
  fun b _ _ ha hc => (h.cell (p := ⟨b, _, none⟩) (hA b ha)).trans hc

theorem Keeps.alloc (A : Nat → Prop) (w : World) (o : Obj) : Keeps A w (w.alloc o) := Keeps.below ((Below.refl _ _).alloc (Nat.le_refl _) _)

theorem Keeps.setCell {A : Nat → Prop} {w w' : World} (h : Keeps A w w') {a : Addr} (ha : ∀ b, A b → b ≠ a.block) (v : Value) : Keeps A w (w'.setCell a v) :=
  fun b _ _ hA hc => (World.cell?_of_block (w := w') (a := ⟨b, _, none⟩) (Below.heap_setCell _ _ _ _ (ha b hA))).trans (h b _ _ hA hc)

theorem Keeps.refl (A : Nat → Prop) (w : World) : Keeps A w w := fun _ _ _ _ h => h

theorem Keeps.trans {A : Nat → Prop} {w w' w'' : World} (h : Keeps A w w') (k : Keeps A w' w'') : Keeps A w w'' :=
  fun b o v ha hc => k b o v ha (h b o v ha hc)

theorem Keeps.alloc' {A : Nat → Prop} {w w' : World} (h : Keeps A w w') (o : Obj) : Keeps A w (w'.alloc o) := h.trans (Keeps.alloc _ _ _)

theorem Keeps.drew {A : Nat → Prop} {w w' : World} (h : Keeps A w w') : Keeps A w w'.drew := h

/-- Part i of a tree, by its place. -/
theorem RepS.part {w : World} {A : Nat → Prop} {ps : List Tree} {o : Option Addr} {n : Nat} (h : RepS w A ps o n) {i : Nat} {p : Tree} (hp : ps[i]? = some p) :
    ∃ b off x y, o = some ⟨b, off, none⟩ ∧ A b ∧ w.cell? ⟨b, off + i * 2, none⟩ = some x ∧ w.cell? ⟨b, off + i * 2 + 1, none⟩ = some y ∧ Rep w A p (.agg #[x, y]) := by
  match ps, h with
  | [], _ => simp at hp
  | q :: ps, h =>
    simp only [RepS] at h
    obtain ⟨b, off, ho, _, hA, hc⟩ := h
    obtain ⟨x, y, hx, hy, hr⟩ := RepC.get _ _ _ hc i p hp
    exact ⟨b, off, x, y, ho, hA, hx, hy, hr⟩

/-- The same, the cells written out. -/
theorem RepS.partAt {w : World} {A : Nat → Prop} {ps : List Tree} {o : Option Addr} {n : Nat} (h : RepS w A ps o n) {i : Nat} {p : Tree} (hp : ps[i]? = some p) :
    ∃ b off o' n' c', o = some ⟨b, off, none⟩ ∧ A b ∧ w.cell? ⟨b, off + i * 2, none⟩ = some (.string p.atom) ∧ w.cell? ⟨b, off + i * 2 + 1, none⟩ = some (.slice o' n' c') ∧ Rep w A p (.agg #[.string p.atom, .slice o' n' c']) := by
  obtain ⟨b, off, x, y, ho, hA, hx, hy, hr⟩ := h.part hp
  obtain ⟨s, qs⟩ := p
  have hr' := hr
  simp only [Rep] at hr
  obtain ⟨o', n', c', hv, hs, hcap⟩ := hr
  simp only [Value.agg.injEq, Array.mk.injEq, List.cons.injEq, and_true] at hv
  obtain ⟨rfl, rfl⟩ := hv
  exact ⟨b, off, o', n', c', ho, hA, hx, hy, hr'⟩

theorem RepS.len {w : World} {A : Nat → Prop} {ps : List Tree} {o : Option Addr} {n : Nat} (h : RepS w A ps o n) : n = ps.length := by
  match ps, h with
  | [], h => simp only [RepS] at h; simpa using h
  | q :: ps, h => simp only [RepS] at h; obtain ⟨_, _, _, hn, _⟩ := h; simpa using hn

theorem RepS.nil (w : World) (A : Nat → Prop) (o : Option Addr) : RepS w A [] o 0 := by simp only [RepS]

theorem RepC.block {w : World} {A : Nat → Prop} {p : Tree} {ps : List Tree} {b off : Nat} (h : RepC w A (p :: ps) b off) : b < w.heap.size := by
  simp only [RepC] at h
  obtain ⟨⟨x, y, hx, _⟩, _⟩ := h
  exact lt_of_cell hx

mutual
theorem Rep.bound {w : World} {A : Nat → Prop} : ∀ (t : Tree) (v : Value), Rep w A t v → Rep w (fun b => A b ∧ b < w.heap.size) t v
  | .node _ ps, _, hr => by
    simp only [Rep] at hr ⊢
    obtain ⟨o, n, c, hv, hs, hcap⟩ := hr
    exact ⟨o, n, c, hv, RepS.bound ps o n hs, hcap⟩
theorem RepS.bound {w : World} {A : Nat → Prop} : ∀ (ps : List Tree) (o : Option Addr) (n : Nat), RepS w A ps o n → RepS w (fun b => A b ∧ b < w.heap.size) ps o n
  | [], _, _, hr => by simpa only [RepS] using hr
  | p :: ps, o, n, hr => by
    simp only [RepS] at hr ⊢
    obtain ⟨b, off, ho, hn, hA, hc⟩ := hr
    exact ⟨b, off, ho, hn, ⟨hA, hc.block⟩, RepC.bound (p :: ps) b off hc⟩
theorem RepC.bound {w : World} {A : Nat → Prop} : ∀ (ps : List Tree) (b off : Nat), RepC w A ps b off → RepC w (fun b => A b ∧ b < w.heap.size) ps b off
  | [], _, _, _ => by simp only [RepC]
  | p :: ps, b, off, hr => by
    simp only [RepC] at hr ⊢
    obtain ⟨⟨x, y, hx, hy, hp⟩, hps⟩ := hr
    exact ⟨⟨x, y, hx, hy, Rep.bound p _ hp⟩, RepC.bound ps b _ hps⟩
end

/-- A struct of two cells that lies in the call's own box, asked for in a later world. -/
theorem boxed {w wk : World} {x y : Value} {ty : TypeId} (h : Below (w.heap.size + 1) (w.alloc (.cells #[x, y] ty)) wk) :
    wk.cell? ⟨w.heap.size, 0, none⟩ = some x ∧ wk.cell? ⟨w.heap.size, 1, none⟩ = some y ∧ Below w.heap.size w wk ∧ w.heap.size < wk.heap.size := by
  have hn := heap_alloc_new w (.cells #[x, y] ty)
  refine ⟨(h.cell (p := ⟨w.heap.size, 0, none⟩) (by simp)).trans (by simp only [World.cell?, hn]; rfl), (h.cell (p := ⟨w.heap.size, 1, none⟩) (by simp)).trans (by simp only [World.cell?, hn]; rfl), ((Below.refl _ _).alloc (Nat.le_refl _) _).trans (h.mono (by omega)), ?_⟩
  have := h.size; simp at this; omega

theorem boxed0 (w : World) (x y : Value) (ty : TypeId) : Below (w.heap.size + 1) (w.alloc (.cells #[x, y] ty)) (w.alloc (.cells #[x, y] ty)) := Below.refl _ _

theorem _root_.Go.RowKit.Below.next {w wk wl : World} {x y : Value} {ty : TypeId} (h : Below (w.heap.size + 1) (w.alloc (.cells #[x, y] ty)) wk) (k : Below wk.heap.size wk wl) : Below (w.heap.size + 1) (w.alloc (.cells #[x, y] ty)) wl :=
  h.trans (k.mono (by have := h.size; simpa using this))

/-- A contract that leaves what was there as it was, told of an earlier world. -/
theorem callQ {P : Program} {f : FuncId} {args : Array Value} {wk w1 : World} {v : Value} (hq : Below w1.heap.size w1 wk) (hc : Calls P f args wk fun e w' => e = .returned v ∧ Below wk.heap.size wk w') :
    Calls P f args wk fun e w' => e = .returned v ∧ Below w1.heap.size w1 w' :=
  hc.mono fun _ _ h => ⟨h.1, hq.trans (h.2.mono hq.size)⟩

theorem RepC.uncons {w : World} {A : Nat → Prop} {p : Tree} {ps : List Tree} {b off : Nat} (h : RepC w A (p :: ps) b off) :
    ∃ o n c, w.cell? ⟨b, off, none⟩ = some (.string p.atom) ∧ w.cell? ⟨b, off + 1, none⟩ = some (.slice o n c) ∧ Rep w A p (.agg #[.string p.atom, .slice o n c]) ∧ RepC w A ps b (off + 2) := by
  simp only [RepC] at h
  obtain ⟨⟨x, y, hx, hy, hr⟩, hps⟩ := h
  obtain ⟨s, qs⟩ := p
  have hr' := hr
  simp only [Rep] at hr
  obtain ⟨o', n', c', hv, hs, hcap⟩ := hr
  simp only [Value.agg.injEq, Array.mk.injEq, List.cons.injEq, and_true] at hv
  obtain ⟨rfl, rfl⟩ := hv
  exact ⟨o', n', c', hx, hy, hr', hps⟩

theorem RepC.nth {w : World} {A : Nat → Prop} {ps : List Tree} {b off : Nat} (h : RepC w A ps b off) (i : Nat) {p : Tree} {k : Nat} (hp : ps[i]? = some p) (hk : k = off + i * 2) :
    ∃ o n c, w.cell? ⟨b, k, none⟩ = some (.string p.atom) ∧ w.cell? ⟨b, k + 1, none⟩ = some (.slice o n c) ∧ Rep w A p (.agg #[.string p.atom, .slice o n c]) := by
  subst hk
  obtain ⟨x, y, hx, hy, hr⟩ := RepC.get ps b off h i p hp
  obtain ⟨s, qs⟩ := p
  have hr' := hr
  simp only [Rep] at hr
  obtain ⟨o', n', c', hv, hs, hcap⟩ := hr
  simp only [Value.agg.injEq, Array.mk.injEq, List.cons.injEq, and_true] at hv
  obtain ⟨rfl, rfl⟩ := hv
  exact ⟨o', n', c', hx, hy, hr'⟩

theorem RepS.uncons {w : World} {A : Nat → Prop} {p : Tree} {ps : List Tree} {o : Option Addr} {n : Nat} (h : RepS w A (p :: ps) o n) : ∃ b off, o = some ⟨b, off, none⟩ ∧ A b ∧ RepC w A (p :: ps) b off := by
  simp only [RepS] at h
  obtain ⟨b, off, ho, _, hA, hc⟩ := h
  exact ⟨b, off, ho, hA, hc⟩

theorem bcell {w w1 : World} {N : Nat} (hb : Below N w w1) : (∀ b o, b < N → w1.cell? ⟨b, o, none⟩ = w.cell? ⟨b, o, none⟩) ∧ (∀ b o, b < N → w1.frozen? ⟨b, o, none⟩ = w.frozen? ⟨b, o, none⟩) :=
  ⟨fun b o h => hb.cell (p := ⟨b, o, none⟩) h, fun b o h => hb.frozen (p := ⟨b, o, none⟩) h⟩
end Go.Proofs.YtpamfjbgnpmmoaaGreatDoor
