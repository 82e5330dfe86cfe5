/- Rep. Row. Several texts in one. -/
import Derived.Test.YtoihkjnfklogpaaPlain
import Derived.WalkKit
import Derived.WalkSpells
/- The representation of trees (forms) in the model's memory, and how it is carried from world to world. -/
namespace Go.Proofs.Ytoihkjnfklogpaa
open Go.RowKit

/- A value is a tree in a world; all blocks that it goes through are in A. -/
mutual
def Rep (w : World) (A : Nat → Prop) : Tree → Value → Prop
  | .node a ps, v => ∃ o n c, v = .agg #[.string a, .slice o n c] ∧ RepS w A ps o n ∧ n ≤ c
def RepS (w : World) (A : Nat → Prop) : List Tree → Option Addr → Nat → Prop
  | [], _, n => n = 0
  | p :: ps, o, n => ∃ b off, o = some ⟨b, off, none⟩ ∧ n = ps.length + 1 ∧ A b ∧ RepC w A (p :: ps) b off
def RepC (w : World) (A : Nat → Prop) : List Tree → Nat → Nat → Prop
  | [], _, _ => True
  | p :: ps, b, off => (∃ x y, w.cell? ⟨b, off, none⟩ = some x ∧ w.cell? ⟨b, off + 1, none⟩ = some y ∧ Rep w A p (.agg #[x, y])) ∧ RepC w A ps b (off + 2)
end

/-- From w to w' no cell of a block in A has turned. -/
def Keeps (A : Nat → Prop) (w w' : World) : Prop := ∀ b o v, A b → w.cell? ⟨b, o, none⟩ = some v → w'.cell? ⟨b, o, none⟩ = some v

mutual
theorem Rep.keep {w w' : World} {A : Nat → Prop} (h : Keeps A w w') : ∀ (t : Tree) (v : Value), Rep w A t v → Rep w' A t v
  | .node _ ps, _, hr => by
    simp only [Rep] at hr ⊢
    obtain ⟨o, n, c, hv, hs, hcap⟩ := hr
    exact ⟨o, n, c, hv, RepS.keep h ps o n hs, hcap⟩
theorem RepS.keep {w w' : World} {A : Nat → Prop} (h : Keeps A w w') : ∀ (ps : List Tree) (o : Option Addr) (n : Nat), RepS w A ps o n → RepS w' A ps o n
  | [], _, _, hr => by simpa only [RepS] using hr
  | p :: ps, o, n, hr => by
    simp only [RepS] at hr ⊢
    obtain ⟨b, off, ho, hn, hA, hc⟩ := hr
    exact ⟨b, off, ho, hn, hA, RepC.keep h hA (p :: ps) off hc⟩
theorem RepC.keep {w w' : World} {A : Nat → Prop} (h : Keeps A w w') {b : Nat} (hA : A b) : ∀ (ps : List Tree) (off : Nat), RepC w A ps b off → RepC w' A ps b off
  | [], _, _ => by simp only [RepC]
  | p :: ps, off, hr => by
    simp only [RepC] at hr ⊢
    obtain ⟨⟨x, y, hx, hy, hp⟩, hps⟩ := hr
    exact ⟨⟨x, y, h _ _ _ hA hx, h _ _ _ hA hy, Rep.keep h p _ hp⟩, RepC.keep h hA ps _ hps⟩
end

mutual
theorem Rep.weak {w : World} {A A' : Nat → Prop} (h : ∀ b, A b → A' b) : ∀ (t : Tree) (v : Value), Rep w A t v → Rep w A' t v
  | .node _ ps, _, hr => by
    simp only [Rep] at hr ⊢
    obtain ⟨o, n, c, hv, hs, hcap⟩ := hr
    exact ⟨o, n, c, hv, RepS.weak h ps o n hs, hcap⟩
theorem RepS.weak {w : World} {A A' : Nat → Prop} (h : ∀ b, A b → A' b) : ∀ (ps : List Tree) (o : Option Addr) (n : Nat), RepS w A ps o n → RepS w A' ps o n
  | [], _, _, hr => by simpa only [RepS] using hr
  | p :: ps, o, n, hr => by
    simp only [RepS] at hr ⊢
    obtain ⟨b, off, ho, hn, hA, hc⟩ := hr
    exact ⟨b, off, ho, hn, h _ hA, RepC.weak h (p :: ps) b off hc⟩
theorem RepC.weak {w : World} {A A' : Nat → Prop} (h : ∀ b, A b → A' b) : ∀ (ps : List Tree) (b off : Nat), RepC w A ps b off → RepC w A' ps b off
  | [], _, _, _ => by simp only [RepC]
  | p :: ps, b, off, hr => by
    simp only [RepC] at hr ⊢
    obtain ⟨⟨x, y, hx, hy, hp⟩, hps⟩ := hr
    exact ⟨⟨x, y, hx, hy, Rep.weak h p _ hp⟩, RepC.weak h ps b _ hps⟩
end

theorem RepC.get {w : World} {A : Nat → Prop} : ∀ (ps : List Tree) (b off : Nat), RepC w A ps b off → ∀ i p, ps[i]? = some p →
    ∃ x y, w.cell? ⟨b, off + i * 2, none⟩ = some x ∧ w.cell? ⟨b, off + i * 2 + 1, none⟩ = some y ∧ Rep w A p (.agg #[x, y])
  | [], _, _, _, i, p, h => by simp at h
  | q :: ps, b, off, hr, i, p, h => by
    simp only [RepC] at hr
    obtain ⟨⟨x, y, hx, hy, hq⟩, hps⟩ := hr
    match i, h with
    | 0, h => simp at h; subst h; exact ⟨x, y, by simpa using hx, by simpa using hy, hq⟩
    | i + 1, h =>
      have := RepC.get ps b (off + 2) hps i p (by simpa using h)
      rw [show off + 2 + i * 2 = off + (i + 1) * 2 from by omega] at this
      exact this

theorem RepC.snoc {w : World} {A : Nat → Prop} : ∀ (ps : List Tree) (b off : Nat) (p : Tree) (x y : Value), RepC w A ps b off →
    w.cell? ⟨b, off + ps.length * 2, none⟩ = some x → w.cell? ⟨b, off + ps.length * 2 + 1, none⟩ = some y → Rep w A p (.agg #[x, y]) → RepC w A (ps ++ [p]) b off
  | [], b, off, p, x, y, _, hx, hy, hp => by
    simp only [List.nil_append, RepC, and_true]
    exact ⟨x, y, by simpa using hx, by simpa using hy, hp⟩
  | q :: ps, b, off, p, x, y, hr, hx, hy, hp => by
    simp only [List.cons_append, RepC] at hr ⊢
    refine ⟨hr.1, RepC.snoc ps b (off + 2) p x y hr.2 ?_ ?_ hp⟩
    · rw [show off + 2 + ps.length * 2 = off + (q :: ps).length * 2 from by simp; omega]; exact hx
    · rw [show off + 2 + ps.length * 2 = off + (q :: ps).length * 2 from by simp; omega]; exact hy

theorem lt_of_cell {w : World} {a : Addr} {v : Value} (h : w.cell? a = some v) : a.block < w.heap.size := by
  unfold World.cell? at h
  rcases Nat.lt_or_ge a.block w.heap.size with hl | hl
  · exact hl
  · simp [Array.getElem?_eq_none hl] at h

theorem Keeps.below {A : Nat → Prop} {w w' : World} (h : Below w.heap.size w w') : Keeps A w w' :=
  fun _ _ _ _ hc => (h.cell (lt_of_cell hc)).trans hc

theorem Keeps.below' {A : Nat → Prop} {B : Nat} {w w' : World} (h : Below B w w') (hA : ∀ b, A b → b < B) : Keeps A w w' :=
  fun b _ _ ha hc => (h.cell (p := ⟨b, _, none⟩) (hA b ha)).trans hc

theorem Keeps.alloc (A : Nat → Prop) (w : World) (o : Obj) : Keeps A w (w.alloc o) := Keeps.below ((Below.refl _ _).alloc (Nat.le_refl _) _)

theorem Keeps.setCell {A : Nat → Prop} {w w' : World} (h : Keeps A w w') {a : Addr} (ha : ∀ b, A b → b ≠ a.block) (v : Value) : Keeps A w (w'.setCell a v) :=
  fun b _ _ hA hc => (World.cell?_of_block (w := w') (a := ⟨b, _, none⟩) (Below.heap_setCell _ _ _ _ (ha b hA))).trans (h b _ _ hA hc)

theorem Keeps.refl (A : Nat → Prop) (w : World) : Keeps A w w := fun _ _ _ _ h => h

theorem Keeps.trans {A : Nat → Prop} {w w' w'' : World} (h : Keeps A w w') (k : Keeps A w' w'') : Keeps A w w'' :=
  fun b o v ha hc => k b o v ha (h b o v ha hc)

theorem Keeps.alloc' {A : Nat → Prop} {w w' : World} (h : Keeps A w w') (o : Obj) : Keeps A w (w'.alloc o) := h.trans (Keeps.alloc _ _ _)

theorem Keeps.drew {A : Nat → Prop} {w w' : World} (h : Keeps A w w') : Keeps A w w'.drew := h

/-- Part i of a tree, by its place. -/
theorem RepS.part {w : World} {A : Nat → Prop} {ps : List Tree} {o : Option Addr} {n : Nat} (h : RepS w A ps o n) {i : Nat} {p : Tree} (hp : ps[i]? = some p) :
    ∃ b off x y, o = some ⟨b, off, none⟩ ∧ A b ∧ w.cell? ⟨b, off + i * 2, none⟩ = some x ∧ w.cell? ⟨b, off + i * 2 + 1, none⟩ = some y ∧ Rep w A p (.agg #[x, y]) := by
  match ps, h with
  | [], _ => simp at hp
  | q :: ps, h =>
    simp only [RepS] at h
    obtain ⟨b, off, ho, _, hA, hc⟩ := h
    obtain ⟨x, y, hx, hy, hr⟩ := RepC.get _ _ _ hc i p hp
    exact ⟨b, off, x, y, ho, hA, hx, hy, hr⟩

/-- The same, the cells written out. -/
theorem RepS.partAt {w : World} {A : Nat → Prop} {ps : List Tree} {o : Option Addr} {n : Nat} (h : RepS w A ps o n) {i : Nat} {p : Tree} (hp : ps[i]? = some p) :
    ∃ b off o' n' c', o = some ⟨b, off, none⟩ ∧ A b ∧ w.cell? ⟨b, off + i * 2, none⟩ = some (.string p.atom) ∧ w.cell? ⟨b, off + i * 2 + 1, none⟩ = some (.slice o' n' c') ∧ Rep w A p (.agg #[.string p.atom, .slice o' n' c']) := by
  obtain ⟨b, off, x, y, ho, hA, hx, hy, hr⟩ := h.part hp
  obtain ⟨s, qs⟩ := p
  have hr' := hr
  simp only [Rep] at hr
  obtain ⟨o', n', c', hv, hs, hcap⟩ := hr
  simp only [Value.agg.injEq, Array.mk.injEq, List.cons.injEq, and_true] at hv
  obtain ⟨rfl, rfl⟩ := hv
  exact ⟨b, off, o', n', c', ho, hA, hx, hy, hr'⟩

theorem RepS.len {w : World} {A : Nat → Prop} {ps : List Tree} {o : Option Addr} {n : Nat} (h : RepS w A ps o n) : n = ps.length := by
  match ps, h with
  | [], h => simp only [RepS] at h; simpa using h
  | q :: ps, h => simp only [RepS] at h; obtain ⟨_, _, _, hn, _⟩ := h; simpa using hn

theorem RepS.nil (w : World) (A : Nat → Prop) (o : Option Addr) : RepS w A [] o 0 := by simp only [RepS]

theorem RepC.block {w : World} {A : Nat → Prop} {p : Tree} {ps : List Tree} {b off : Nat} (h : RepC w A (p :: ps) b off) : b < w.heap.size := by
  simp only [RepC] at h
  obtain ⟨⟨x, y, hx, _⟩, _⟩ := h
  exact lt_of_cell hx

mutual
theorem Rep.bound {w : World} {A : Nat → Prop} : ∀ (t : Tree) (v : Value), Rep w A t v → Rep w (fun b => A b ∧ b < w.heap.size) t v
  | .node _ ps, _, hr => by
    simp only [Rep] at hr ⊢
    obtain ⟨o, n, c, hv, hs, hcap⟩ := hr
    exact ⟨o, n, c, hv, RepS.bound ps o n hs, hcap⟩
theorem RepS.bound {w : World} {A : Nat → Prop} : ∀ (ps : List Tree) (o : Option Addr) (n : Nat), RepS w A ps o n → RepS w (fun b => A b ∧ b < w.heap.size) ps o n
  | [], _, _, hr => by simpa only [RepS] using hr
  | p :: ps, o, n, hr => by
    simp only [RepS] at hr ⊢
    obtain ⟨b, off, ho, hn, hA, hc⟩ := hr
    exact ⟨b, off, ho, hn, ⟨hA, hc.block⟩, RepC.bound (p :: ps) b off hc⟩
theorem RepC.bound {w : World} {A : Nat → Prop} : ∀ (ps : List Tree) (b off : Nat), RepC w A ps b off → RepC w (fun b => A b ∧ b < w.heap.size) ps b off
  | [], _, _, _ => by simp only [RepC]
  | p :: ps, b, off, hr => by
    simp only [RepC] at hr ⊢
    obtain ⟨⟨x, y, hx, hy, hp⟩, hps⟩ := hr
    exact ⟨⟨x, y, hx, hy, Rep.bound p _ hp⟩, RepC.bound ps b _ hps⟩
end

/-- A struct of two cells that lies in the call's own box, asked for in a later world. -/
theorem boxed {w wk : World} {x y : Value} {ty : TypeId} (h : Below (w.heap.size + 1) (w.alloc (.cells #[x, y] ty)) wk) :
    wk.cell? ⟨w.heap.size, 0, none⟩ = some x ∧ wk.cell? ⟨w.heap.size, 1, none⟩ = some y ∧ Below w.heap.size w wk ∧ w.heap.size < wk.heap.size := by
  have hn := heap_alloc_new w (.cells #[x, y] ty)
  refine ⟨(h.cell (p := ⟨w.heap.size, 0, none⟩) (by simp)).trans (by simp only [World.cell?, hn]; rfl), (h.cell (p := ⟨w.heap.size, 1, none⟩) (by simp)).trans (by simp only [World.cell?, hn]; rfl), ((Below.refl _ _).alloc (Nat.le_refl _) _).trans (h.mono (by omega)), ?_⟩
  have := h.size; simp at this; omega

theorem boxed0 (w : World) (x y : Value) (ty : TypeId) : Below (w.heap.size + 1) (w.alloc (.cells #[x, y] ty)) (w.alloc (.cells #[x, y] ty)) := Below.refl _ _

theorem _root_.Go.RowKit.Below.next {w wk wl : World} {x y : Value} {ty : TypeId} (h : Below (w.heap.size + 1) (w.alloc (.cells #[x, y] ty)) wk) (k : Below wk.heap.size wk wl) : Below (w.heap.size + 1) (w.alloc (.cells #[x, y] ty)) wl :=
  h.trans (k.mono (by have := h.size; simpa using this))

/-- A contract that leaves what was there as it was, told of an earlier world. -/
theorem callQ {P : Program} {f : FuncId} {args : Array Value} {wk w1 : World} {v : Value} (hq : Below w1.heap.size w1 wk) (hc : Calls P f args wk fun e w' => e = .returned v ∧ Below wk.heap.size wk w') :
    Calls P f args wk fun e w' => e = .returned v ∧ Below w1.heap.size w1 w' :=
  hc.mono fun _ _ h => ⟨h.1, hq.trans (h.2.mono hq.size)⟩

theorem RepC.uncons {w : World} {A : Nat → Prop} {p : Tree} {ps : List Tree} {b off : Nat} (h : RepC w A (p :: ps) b off) :
    ∃ o n c, w.cell? ⟨b, off, none⟩ = some (.string p.atom) ∧ w.cell? ⟨b, off + 1, none⟩ = some (.slice o n c) ∧ Rep w A p (.agg #[.string p.atom, .slice o n c]) ∧ RepC w A ps b (off + 2) := by
  simp only [RepC] at h
  obtain ⟨⟨x, y, hx, hy, hr⟩, hps⟩ := h
  obtain ⟨s, qs⟩ := p
  have hr' := hr
  simp only [Rep] at hr
  obtain ⟨o', n', c', hv, hs, hcap⟩ := hr
  simp only [Value.agg.injEq, Array.mk.injEq, List.cons.injEq, and_true] at hv
  obtain ⟨rfl, rfl⟩ := hv
  exact ⟨o', n', c', hx, hy, hr', hps⟩

theorem RepC.nth {w : World} {A : Nat → Prop} {ps : List Tree} {b off : Nat} (h : RepC w A ps b off) (i : Nat) {p : Tree} {k : Nat} (hp : ps[i]? = some p) (hk : k = off + i * 2) :
    ∃ o n c, w.cell? ⟨b, k, none⟩ = some (.string p.atom) ∧ w.cell? ⟨b, k + 1, none⟩ = some (.slice o n c) ∧ Rep w A p (.agg #[.string p.atom, .slice o n c]) := by
  subst hk
  obtain ⟨x, y, hx, hy, hr⟩ := RepC.get ps b off h i p hp
  obtain ⟨s, qs⟩ := p
  have hr' := hr
  simp only [Rep] at hr
  obtain ⟨o', n', c', hv, hs, hcap⟩ := hr
  simp only [Value.agg.injEq, Array.mk.injEq, List.cons.injEq, and_true] at hv
  obtain ⟨rfl, rfl⟩ := hv
  exact ⟨o', n', c', hx, hy, hr'⟩

theorem RepS.uncons {w : World} {A : Nat → Prop} {p : Tree} {ps : List Tree} {o : Option Addr} {n : Nat} (h : RepS w A (p :: ps) o n) : ∃ b off, o = some ⟨b, off, none⟩ ∧ A b ∧ RepC w A (p :: ps) b off := by
  simp only [RepS] at h
  obtain ⟨b, off, ho, _, hA, hc⟩ := h
  exact ⟨b, off, ho, hA, hc⟩

theorem bcell {w w1 : World} {N : Nat} (hb : Below N w w1) : (∀ b o, b < N → w1.cell? ⟨b, o, none⟩ = w.cell? ⟨b, o, none⟩) ∧ (∀ b o, b < N → w1.frozen? ⟨b, o, none⟩ = w.frozen? ⟨b, o, none⟩) :=
  ⟨fun b o h => hb.cell (p := ⟨b, o, none⟩) h, fun b o h => hb.frozen (p := ⟨b, o, none⟩) h⟩
end Go.Proofs.Ytoihkjnfklogpaa

/- Rows of trees that a call makes itself by append: what is known of them, and one append as one step of a walk. -/
namespace Go.Proofs.Ytoihkjnfklogpaa
open Go.RowKit

theorem ret_bool {a b : Bool} (h : a = b) : Ending.returned (.bool a) = .returned (.bool b) := by rw [h]

theorem ret_int {k : IntKind} {a b : Int} (h : a = b) : Ending.returned (.int k a) = .returned (.int k b) := by rw [h]

theorem ret_int_bool {k : IntKind} {a b : Int} {c d : Bool} (h : a = b) (h' : c = d) : Ending.returned (.tuple #[.int k a, .bool c]) = .returned (.tuple #[.int k b, .bool d]) := by rw [h, h']

theorem run_append_own2 {P : Program} (w : World) (base : Nat) (t ty e : TypeId) (i : TypeInfo) (z : Value) (size bytes : Nat) (ht : P.underlying t = some (.slice e)) (hi : P.info? e = some i) (hz : i.zero = some z)
    (hsize : i.size = size) (hby : i.bytes = bytes) (hzs : z.cells.size = size) (hsz : 0 < size) (v : Value) (n : Nat) (xs : List Value) (hown : w.ownsRow base e size v n xs)
    (a : Addr) (m c : Nat) (news : List Value) (hl : news.length = m * size) (hnews : ∀ j u, news[j]? = some u → w.cell? (a.add j) = some u) (h1 : ∀ u ∈ news, u.oneCell' = true) (hm : m ≠ 0)
    (h63 : n + m ≤ maxLen) (hbytes : (n + m) * bytes ≤ 140737488355328) (hbase : base ≤ w.heap.size) :
    ∃ g cap w', (Builtin.append_ #[t, t] ty #[v, .slice (some a) m c]).run P w = .ok (.slice (some ⟨g, 0, none⟩) (n + m) cap) w' ∧ w'.ownsRow base e size (.slice (some ⟨g, 0, none⟩) (n + m) cap) (n + m) (xs ++ news) ∧ w.grownBy w' v.ownBlock ∧
      (v.ownBlock = some g ∨ w.heap.size ≤ g) := by
  obtain ⟨v', w', hr, h2, h3, h4⟩ := run_append_own (P := P) w base t ty e i z size bytes ht hi hz hsize hby hzs hsz v n xs hown a m c news hl hnews h1 h63 hbytes hbase
  have hform : ∃ g cap, v' = .slice (some ⟨g, 0, none⟩) (n + m) cap := by
    rcases h2.2 with ⟨rfl, hn⟩ | ⟨g, cap, cur, rfl, _⟩
    · omega
    · exact ⟨g, cap, rfl⟩
  obtain ⟨g, cap, rfl⟩ := hform
  refine ⟨g, cap, w', hr, h2, h3, ?_⟩
  subst hsize
  subst hby
  have hsmall : n + m ≤ 9223372036854775807 := by simp only [maxLen] at h63; omega
  rcases hown.2 with ⟨rfl, rfl⟩ | ⟨g', cap', cur, rfl, hbg, hg, hnc, hcm, hcs, htake⟩
  · right
    have hr' := run_append_nil (P := P) w t ty e i z ht hi hz a m c news hl hnews (by omega) (by omega) (by have hb := hbytes; simp only [Nat.zero_add] at hb; omega)
    rw [hr'] at hr
    simp only [Result.ok.injEq, Value.slice.injEq, Option.some.injEq, Addr.mk.injEq] at hr
    omega
  · by_cases hroom : n + m ≤ cap'
    · left
      have hfit : n * i.size + news.length ≤ cur.size := by rw [hl, hcs, ← Nat.add_mul]; exact Nat.mul_le_mul_right _ hroom
      have hr' := run_append_room (P := P) w t ty e i ht hi g' n cap' cur hg a m c news hl hnews h1 hroom hfit
      rw [hr'] at hr
      simp only [Result.ok.injEq, Value.slice.injEq, Option.some.injEq, Addr.mk.injEq] at hr
      simp only [Value.ownBlock, Option.some.injEq]
      omega
    · right
      have holds : ∀ j u, xs[j]? = some u → w.cell? ((⟨g', 0, none⟩ : Addr).add j) = some u := hown.cells (g := g') rfl
      have hr' := run_append_grow (P := P) w t ty e i z ht hi hz ⟨g', 0, none⟩ n cap' xs hown.1 holds a m c news hl hnews (by omega) (by omega) (growslice_fits (by omega) hbytes)
      rw [hr'] at hr
      simp only [Result.ok.injEq, Value.slice.injEq, Option.some.injEq, Addr.mk.injEq] at hr
      omega

/-- Consecutive pairs of cells are trees. -/
def Pairs (w : World) (A : Nat → Prop) : List Tree → List Value → Prop
  | [], [] => True
  | p :: ps, x :: y :: xs => Rep w A p (.agg #[x, y]) ∧ Pairs w A ps xs
  | _, _ => False

theorem Pairs.keep {w w' : World} {A A' : Nat → Prop} (h : Keeps A w w') (hA : ∀ b, A b → A' b) : ∀ (ps : List Tree) (xs : List Value), Pairs w A ps xs → Pairs w' A' ps xs
  | [], [], _ => trivial
  | [], _ :: _, hp => by simp [Pairs] at hp
  | _ :: _, [], hp => by simp [Pairs] at hp
  | _ :: _, [_], hp => by simp [Pairs] at hp
  | p :: ps, x :: y :: xs, hp => ⟨Rep.weak hA _ _ (Rep.keep h _ _ hp.1), Pairs.keep h hA ps xs hp.2⟩

theorem Pairs.snoc {w : World} {A : Nat → Prop} {p : Tree} {x y : Value} (hr : Rep w A p (.agg #[x, y])) : ∀ (ps : List Tree) (xs : List Value), Pairs w A ps xs → Pairs w A (ps ++ [p]) (xs ++ [x, y])
  | [], [], _ => ⟨hr, trivial⟩
  | [], _ :: _, hp => by simp [Pairs] at hp
  | _ :: _, [], hp => by simp [Pairs] at hp
  | _ :: _, [_], hp => by simp [Pairs] at hp
  | _ :: ps, _ :: _ :: xs, hp => ⟨hp.1, Pairs.snoc hr ps xs hp.2⟩

theorem Pairs.cells {w : World} {A : Nat → Prop} {b : Nat} : ∀ (ps : List Tree) (xs : List Value) (off : Nat), Pairs w A ps xs → (∀ j u, xs[j]? = some u → w.cell? ⟨b, off + j, none⟩ = some u) → RepC w A ps b off
  | [], _, _, _, _ => by simp only [RepC]
  | _ :: _, [], _, hp, _ => by simp [Pairs] at hp
  | _ :: _, [_], _, hp, _ => by simp [Pairs] at hp
  | p :: ps, x :: y :: xs, off, hp, hc => by
    simp only [RepC]
    refine ⟨⟨x, y, by simpa using hc 0 x rfl, hc 1 y rfl, hp.1⟩, Pairs.cells ps xs (off + 2) hp.2 fun j u hj => ?_⟩
    have := hc (j + 2) u (by simpa using hj)
    rw [show off + 2 + j = off + (j + 2) from by omega]; exact this

/-- A slice of trees in a row of the call's own, from block 'base' on; the trees' own blocks lie from 'base' on, too, and are not the row. -/
def TRow (w : World) (base : Nat) (e : TypeId) (v : Value) (ps : List Tree) : Prop :=
  ∃ xs, w.ownsRow base e 2 v ps.length xs ∧ Pairs w (fun b => base ≤ b ∧ b < w.heap.size ∧ v.ownBlock ≠ some b) ps xs

theorem TRow.nil (w : World) (base : Nat) (e : TypeId) : TRow w base e (.slice none 0 0) [] := ⟨[], World.ownsRow_nil _ _ _ _, trivial⟩

theorem keeps_of_blocks {A : Nat → Prop} {w w' : World} (h : ∀ b, A b → w'.heap[b]? = w.heap[b]?) : Keeps A w w' :=
  fun b o _ ha hc => (World.cell?_of_block (w := w) (a := ⟨b, o, none⟩) (h b ha)).trans hc

theorem TRow.keep {w w' : World} {base : Nat} {e : TypeId} {v : Value} {ps : List Tree} (h : TRow w base e v ps) (hk : ∀ b, base ≤ b → b < w.heap.size → w'.heap[b]? = w.heap[b]?) (hs : w.heap.size ≤ w'.heap.size) :
    TRow w' base e v ps := by
  obtain ⟨xs, h1, h2⟩ := h
  refine ⟨xs, ?_, Pairs.keep (keeps_of_blocks fun b hb => hk b hb.1 hb.2.1) (fun b hb => ⟨hb.1, by omega, hb.2.2⟩) _ _ h2⟩
  refine ⟨h1.1, ?_⟩
  rcases h1.2 with h | ⟨g, cap, cur, hv, hb, hg, r⟩
  · exact .inl h
  · exact .inr ⟨g, cap, cur, hv, hb, by rw [hk g hb (Array.getElem?_eq_some_iff.1 hg).1]; exact hg, r⟩

theorem TRow.below {w w' : World} {base : Nat} {e : TypeId} {v : Value} {ps : List Tree} (h : TRow w base e v ps) (hb : Below w.heap.size w w') : TRow w' base e v ps :=
  h.keep (fun b _ hl => hb.block b hl) hb.size

theorem TRow.alloc {w : World} {base : Nat} {e : TypeId} {v : Value} {ps : List Tree} (h : TRow w base e v ps) (o : Obj) : TRow (w.alloc o) base e v ps :=
  h.below ((Below.refl _ _).alloc (Nat.le_refl _) _)

theorem TRow.setCell {w : World} {base : Nat} {e : TypeId} {v : Value} {ps : List Tree} (h : TRow w base e v ps) {a : Addr} (ha : a.block < base) (u : Value) : TRow (w.setCell a u) base e v ps :=
  h.keep (fun b hb _ => Below.heap_setCell _ _ _ _ (by omega)) (by simp [World.setCell])

theorem TRow.drew {w : World} {base : Nat} {e : TypeId} {v : Value} {ps : List Tree} (h : TRow w base e v ps) : TRow w.drew base e v ps :=
  h.keep (fun _ _ _ => rfl) (Nat.le_refl _)

/-- The row, read as a tree's parts. -/
theorem TRow.rep {w : World} {base : Nat} {e : TypeId} {o : Option Addr} {n c : Nat} {ps : List Tree} (h : TRow w base e (.slice o n c) ps) (s : ByteArray) :
    Rep w (fun b => base ≤ b) (.node s ps) (.agg #[.string s, .slice o n c]) := by
  obtain ⟨xs, h1, h2⟩ := h
  simp only [Rep]
  refine ⟨o, n, c, rfl, ?_, ?_⟩
  case refine_2 =>
    rcases h1.2 with ⟨hv, hn⟩ | ⟨g, cap, cur, hv, hb, hg, hnc, hcm, hcs, htake⟩
    · simp only [Value.slice.injEq] at hv; omega
    · simp only [Value.slice.injEq] at hv; omega
  rcases h1.2 with ⟨hv, hn⟩ | ⟨g, cap, cur, hv, hb, hg, hnc, hcm, hcs, htake⟩
  · simp only [Value.slice.injEq] at hv
    obtain ⟨_, rfl, _⟩ := hv
    have : ps = [] := List.eq_nil_of_length_eq_zero hn
    subst this
    exact RepS.nil _ _ _
  · simp only [Value.slice.injEq] at hv
    obtain ⟨rfl, rfl, rfl⟩ := hv
    cases ps with
    | nil => exact RepS.nil _ _ _
    | cons p ps =>
      simp only [RepS]
      refine ⟨g, 0, rfl, by simp, hb, ?_⟩
      refine Pairs.cells (p :: ps) xs 0 (Pairs.keep (fun _ _ _ _ h => h) (fun b hb => hb.1) _ _ h2) fun j u hj => ?_
      have := h1.cells (g := g) rfl j u hj
      rw [show (⟨g, 0, none⟩ : Addr).add j = ⟨g, 0 + j, none⟩ from by unfold Addr.add; split <;> simp_all] at this
      exact this

theorem TRow.len {w : World} {base : Nat} {e : TypeId} {o : Option Addr} {n c : Nat} {ps : List Tree} (h : TRow w base e (.slice o n c) ps) : n = ps.length := by
  obtain ⟨xs, h1, _⟩ := h
  rcases h1.2 with ⟨hv, hn⟩ | ⟨g, cap, cur, hv, _⟩
  · simp only [Value.slice.injEq] at hv; omega
  · simp only [Value.slice.injEq] at hv; omega

theorem TRow.ownLt {w : World} {base : Nat} {e : TypeId} {v : Value} {ps : List Tree} (h : TRow w base e v ps) {k : Nat} (hk : v.ownBlock = some k) : base ≤ k ∧ k < w.heap.size := by
  obtain ⟨xs, h1, _⟩ := h
  exact h1.lt k hk

/-- One part is appended. -/
theorem run_append_tree {P : Program} (w : World) (base : Nat) (t ty e : TypeId) (i : TypeInfo) (z : Value) (bytes : Nat) (ht : P.underlying t = some (.slice e)) (hi : P.info? e = some i) (hz : i.zero = some z)
    (hsize : i.size = 2) (hby : i.bytes = bytes) (hzs : z.cells.size = 2) (hb64 : bytes ≤ 64) (v : Value) (ps : List Tree) (hrow : TRow w base e v ps) (b off c : Nat) (p : Tree) (x y : Value)
    (hx : w.cell? ⟨b, off, none⟩ = some x) (hy : w.cell? ⟨b, off + 1, none⟩ = some y) (hx1 : x.oneCell' = true) (hy1 : y.oneCell' = true) {A : Nat → Prop} (hp : Rep w A p (.agg #[x, y]))
    (hA : ∀ b, A b → base ≤ b ∧ b < w.heap.size ∧ v.ownBlock ≠ some b) (hn : ps.length ≤ 1000000000) (hbase : base ≤ w.heap.size) :
    ∃ g cap w', (Builtin.append_ #[t, t] ty #[v, .slice (some ⟨b, off, none⟩) 1 c]).run P w = .ok (.slice (some ⟨g, 0, none⟩) (ps.length + 1) cap) w' ∧
      TRow w' base e (.slice (some ⟨g, 0, none⟩) (ps.length + 1) cap) (ps ++ [p]) ∧ Below base w w' := by
  obtain ⟨xs, h1, h2⟩ := hrow
  have hadd : ∀ j, (⟨b, off, none⟩ : Addr).add j = ⟨b, off + j, none⟩ := by intro j; unfold Addr.add; split <;> simp_all
  obtain ⟨g, cap, w', hr, k1, k2, k3⟩ := run_append_own2 (P := P) w base t ty e i z 2 bytes ht hi hz hsize hby hzs (by decide) v ps.length xs h1 ⟨b, off, none⟩ 1 c [x, y] rfl
    (by intro j u hj
        rw [hadd]
        match j, hj with
        | 0, hj => simp at hj; subst hj; simpa using hx
        | 1, hj => simp at hj; subst hj; exact hy)
    (by intro u hu; simp at hu; rcases hu with rfl | rfl <;> assumption) (by decide) (by simp only [maxLen]; omega)
    (by have := Nat.mul_le_mul (show ps.length + 1 ≤ 1000000001 by omega) hb64; omega) hbase
  have hlt : ∀ b, v.ownBlock = some b → base ≤ b ∧ b < w.heap.size := h1.lt
  have hne : ∀ b, base ≤ b ∧ b < w.heap.size ∧ v.ownBlock ≠ some b → base ≤ b ∧ b < w'.heap.size ∧ Value.ownBlock (.slice (some ⟨g, 0, none⟩) (ps.length + 1) cap) ≠ some b := by
    intro b hb
    refine ⟨hb.1, Nat.lt_of_lt_of_le hb.2.1 k2.size, ?_⟩
    simp only [Value.ownBlock, ne_eq, Option.some.injEq]
    intro hgb
    subst hgb
    rcases k3 with k3 | k3
    · exact hb.2.2 k3
    · omega
  have hkeep : Keeps (fun b => base ≤ b ∧ b < w.heap.size ∧ v.ownBlock ≠ some b) w w' := keeps_of_blocks fun b hb => k2.block b hb.2.1 (fun e => hb.2.2 e.symm)
  refine ⟨g, cap, w', hr, ⟨xs ++ [x, y], by simpa using k1, Pairs.snoc ?_ _ _ (Pairs.keep hkeep hne _ _ h2)⟩, ?_⟩
  · exact Rep.weak hne _ _ (Rep.keep hkeep _ _ (Rep.weak hA _ _ hp))
  · exact ((Below.refl base w).grown k2 hbase (fun k hk => (hlt k hk).1))

theorem wpList_append_tree {P : Program} {ops : Array Oper} {rest : List Oper} {o : Oper} {a : Act} {Q : Exit → Act → World → Prop} {w : World} (hgd : o.guard = none) (s x0 : Operand) (t : TypeId)
    (ho : o.op = .call { callee := .builtin .append, args := #[s, x0], argTypes := #[t, t] })
    (base : Nat) (e : TypeId) (i : TypeInfo) (z : Value) (bytes : Nat) (ht : P.underlying t = some (.slice e)) (hi : P.info? e = some i) (hz : i.zero = some z)
    (hsize : i.size = 2) (hby : i.bytes = bytes) (hzs : z.cells.size = 2) (hb64 : bytes ≤ 64) (v : Value) (hs : a.eval s = v) (ps : List Tree) (hrow : TRow w base e v ps) (b off c : Nat) (hx0 : a.eval x0 = .slice (some ⟨b, off, none⟩) 1 c) (p : Tree) (x y : Value)
    (hx : w.cell? ⟨b, off, none⟩ = some x) (hy : w.cell? ⟨b, off + 1, none⟩ = some y) (hx1 : x.oneCell' = true) (hy1 : y.oneCell' = true) {A : Nat → Prop} (hp : Rep w A p (.agg #[x, y]))
    (hA : ∀ b, A b → base ≤ b ∧ b < w.heap.size ∧ v.ownBlock ≠ some b) (hn : ps.length ≤ 1000000000) (hbase : base ≤ w.heap.size)
    (h : ∀ g cap w', TRow w' base e (.slice (some ⟨g, 0, none⟩) (ps.length + 1) cap) (ps ++ [p]) → Below base w w' → wpList P ops Q rest (a.put o.dst (.slice (some ⟨g, 0, none⟩) (ps.length + 1) cap)) w') : wpList P ops Q (o :: rest) a w := by
  obtain ⟨g, cap, w', hr, k1, k2⟩ := run_append_tree (P := P) w base t o.type e i z bytes ht hi hz hsize hby hzs hb64 v ps hrow b off c p x y hx hy hx1 hy1 hp hA hn hbase
  refine wpList_plain hgd fun K hK => ?_
  unfold Oper.wp execOp
  simp only [ho, resolve, invoke, builtin, Sem.run_bind, Sem.run_pure, Result.andThen_ok, List.map_toArray, List.map_cons, List.map_nil, hs, hx0, hr]
  exact hK _ _ (h g cap w' k1 k2)

theorem two_new (w : World) (x y : Value) (ty : TypeId) : (w.alloc (.cells #[x, y] ty)).cell? ⟨w.heap.size, 0, none⟩ = some x ∧ (w.alloc (.cells #[x, y] ty)).cell? ⟨w.heap.size, 1, none⟩ = some y := by
  have h := heap_alloc_new w (.cells #[x, y] ty)
  exact ⟨by simp only [World.cell?, h]; rfl, by simp only [World.cell?, h]; rfl⟩

theorem frozen_new (w : World) (c : Array Value) (ty : TypeId) (j : Nat) : (w.alloc (.cells c ty)).frozen? ⟨w.heap.size, j, none⟩ = false := by
  have h := heap_alloc_new w (.cells c ty)
  simp only [World.frozen?, h]; simp

/-- The same, the part in the box of one element that the call of append has just laid. -/
theorem wpList_append_box {P : Program} {ops : Array Oper} {rest : List Oper} {o : Oper} {a : Act} {Q : Exit → Act → World → Prop} {W : World} (hgd : o.guard = none) (s x0 : Operand) (t : TypeId)
    (ho : o.op = .call { callee := .builtin .append, args := #[s, x0], argTypes := #[t, t] })
    (base : Nat) (e : TypeId) (i : TypeInfo) (z : Value) (bytes : Nat) (ht : P.underlying t = some (.slice e)) (hi : P.info? e = some i) (hz : i.zero = some z)
    (hsize : i.size = 2) (hby : i.bytes = bytes) (hzs : z.cells.size = 2) (hb64 : bytes ≤ 64) (v : Value) (hs : a.eval s = v) (ps : List Tree) (b c ty : Nat) (hx0 : a.eval x0 = .slice (some ⟨b, 0, none⟩) 1 c) (hb : b = W.heap.size) (p : Tree) (x y : Value)
    (hx1 : x.oneCell' = true) (hy1 : y.oneCell' = true) {A : Nat → Prop} (hrow : TRow W base e v ps) (hp : Rep W A p (.agg #[x, y]))
    (hA : ∀ b, A b → base ≤ b ∧ b < W.heap.size ∧ v.ownBlock ≠ some b) (hn : ps.length ≤ 1000000000) (hbase : base ≤ W.heap.size)
    (h : ∀ g cap w', TRow w' base e (.slice (some ⟨g, 0, none⟩) (ps.length + 1) cap) (ps ++ [p]) → Below base W w' → wpList P ops Q rest (a.put o.dst (.slice (some ⟨g, 0, none⟩) (ps.length + 1) cap)) w') :
    wpList P ops Q (o :: rest) a (W.alloc (.cells #[x, y] ty)) := by
  subst hb
  obtain ⟨c1, c2⟩ := two_new W x y ty
  refine wpList_append_tree hgd s x0 t ho base e i z bytes ht hi hz hsize hby hzs hb64 v hs ps (hrow.alloc _) W.heap.size 0 c hx0 p x y c1 c2 hx1 hy1 (Rep.keep (Keeps.alloc _ _ _) _ _ hp) (fun b hb => ?_) hn (by simp; omega) fun g cap w' k1 k2 => h g cap w' k1 (((Below.refl base W).alloc hbase _).trans k2)
  have := hA b hb
  exact ⟨this.1, by simp; omega, this.2.2⟩
end Go.Proofs.Ytoihkjnfklogpaa
