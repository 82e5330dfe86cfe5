/- Rows of trees that a call makes itself by append: what is known of them, and one append as one step of a walk. -/
import Derived.Test.YtpamfjbgnpmmoaaGreatDoorRep
import Derived.WalkKit
namespace Go.Proofs.YtpamfjbgnpmmoaaGreatDoor
open Go.RowKit

theorem ret_bool {a b : Bool} (h : a = b) : Ending.returned (.bool a) = .returned (.bool b) := by rw [h]

theorem ret_int {k : IntKind} {a b : Int} (h : a = b) : Ending.returned (.int k a) = .returned (.int k b) := by rw [h]

theorem ret_int_bool {k : IntKind} {a b : Int} {c d : Bool} (h : a = b) (h' : c = d) : Ending.returned (.tuple #[.int k a, .bool c]) = .returned (.tuple #[.int k b, .bool d]) := by rw [h, h']

theorem run_append_own2 {P : Program} (w : World) (base : Nat) (t ty e : TypeId) (i : TypeInfo) (z : Value) (size bytes : Nat) (ht : P.underlying t = some (.slice e)) (hi : P.info? e = some i) (hz : i.zero = some z)
    (hsize : i.size = size) (hby : i.bytes = bytes) (hzs : z.cells.size = size) (hsz : 0 < size) (v : Value) (n : Nat) (xs : List Value) (hown : w.ownsRow base e size v n xs)
    (a : Addr) (m c : Nat) (news : List Value) (hl : news.length = m * size) (hnews : ∀ j u, news[j]? = some u → w.cell? (a.add j) = some u) (h1 : ∀ u ∈ news, u.oneCell' = true) (hm : m ≠ 0)
    (h63 : n + m ≤ maxLen) (hbytes : (n + m) * bytes ≤ 140737488355328) (hbase : base ≤ w.heap.size) :
    ∃ g cap w', (Builtin.append_ #[t, t] ty #[v, .slice (some a) m c]).run P w = .ok (.slice (some ⟨g, 0, none⟩) (n + m) cap) w' ∧ w'.ownsRow base e size (.slice (some ⟨g, 0, none⟩) (n + m) cap) (n + m) (xs ++ news) ∧ w.grownBy w' v.ownBlock ∧
      (v.ownBlock = some g ∨ w.heap.size ≤ g) := by
  obtain ⟨v', w', hr, h2, h3, h4⟩ := run_append_own (P := P) w base t ty e i z size bytes ht hi hz hsize hby hzs hsz v n xs hown a m c news hl hnews h1 h63 hbytes hbase
  have hform : ∃ g cap, v' = .slice (some ⟨g, 0, none⟩) (n + m) cap := by
    rcases h2.2 with ⟨rfl, hn⟩ | ⟨g, cap, cur, rfl, _⟩
    · omega
    · exact ⟨g, cap, rfl⟩
  obtain ⟨g, cap, rfl⟩ := hform
  refine ⟨g, cap, w', hr, h2, h3, ?_⟩
  subst hsize
  subst hby
  have hsmall : n + m ≤ 9223372036854775807 := by simp only [maxLen] at h63; omega
  rcases hown.2 with ⟨rfl, rfl⟩ | ⟨g', cap', cur, rfl, hbg, hg, hnc, hcm, hcs, htake⟩
  · right
    have hr' := run_append_nil (P := P) w t ty e i z ht hi hz a m c news hl hnews (by omega) (by omega) (by have hb := hbytes; simp only [Nat.zero_add] at hb; omega)
    rw [hr'] at hr
    simp only [Result.ok.injEq, Value.slice.injEq, Option.some.injEq, Addr.mk.injEq] at hr
    omega
  · by_cases hroom : n + m ≤ cap'
    · left
      have hfit : n * i.size + news.length ≤ cur.size := by rw [hl, hcs, ← Nat.add_mul]; exact Nat.mul_le_mul_right _ hroom
      have hr' := run_append_room (P := P) w t ty e i ht hi g' n cap' cur hg a m c news hl hnews h1 hroom hfit
      rw [hr'] at hr
      simp only [Result.ok.injEq, Value.slice.injEq, Option.some.injEq, Addr.mk.injEq] at hr
      simp only [Value.ownBlock, Option.some.injEq]
      omega
    · right
      have holds : ∀ j u, xs[j]? = some u → w.cell? ((⟨g', 0, none⟩ : Addr).add j) = some u := hown.cells (g := g') rfl
      have hr' := run_append_grow (P := P) w t ty e i z ht hi hz ⟨g', 0, none⟩ n cap' xs hown.1 holds a m c news hl hnews (by omega) (by omega) (growslice_fits (by omega) hbytes)
      rw [hr'] at hr
      simp only [Result.ok.injEq, Value.slice.injEq, Option.some.injEq, Addr.mk.injEq] at hr
      omega

/-- Consecutive pairs of cells are trees. -/
def Pairs (w : World) (A : Nat → Prop) : List Tree → List Value → Prop
  | [], [] => True
  | p :: ps, x :: y :: xs => Rep w A p (.agg #[x, y]) ∧ Pairs w A ps xs
  | _, _ => False

theorem Pairs.keep {w w' : World} {A A' : Nat → Prop} (h : Keeps A w w') (hA : ∀ b, A b → A' b) : ∀ (ps : List Tree) (xs : List Value), Pairs w A ps xs → Pairs w' A' ps xs
  | [], [], _ => trivial
  | [], _ :: _, hp => by simp [Pairs] at hp
  | _ :: _, [], hp => by simp [Pairs] at hp
  | _ :: _, [_], hp => by simp [Pairs] at hp
  | p :: ps, x :: y :: xs, hp => ⟨Rep.weak hA _ _ (Rep.keep h _ _ hp.1), Pairs.keep h hA ps xs hp.2⟩

theorem Pairs.snoc {w : World} {A : Nat → Prop} {p : Tree} {x y : Value} (hr : Rep w A p (.agg #[x, y])) : ∀ (ps : List Tree) (xs : List Value), Pairs w A ps xs → Pairs w A (ps ++ [p]) (xs ++ [x, y])
  | [], [], _ => ⟨hr, trivial⟩
  | [], _ :: _, hp => by simp [Pairs] at hp
  | _ :: _, [], hp => by simp [Pairs] at hp
  | _ :: _, [_], hp => by simp [Pairs] at hp
  | _ :: ps, _ :: _ :: xs, hp => ⟨hp.1, Pairs.snoc hr ps xs hp.2⟩

theorem Pairs.cells {w : World} {A : Nat → Prop} {b : Nat} : ∀ (ps : List Tree) (xs : List Value) (off : Nat), Pairs w A ps xs → (∀ j u, xs[j]? = some u → w.cell? ⟨b, off + j, none⟩ = some u) → RepC w A ps b off
  | [], _, _, _, _ => by simp only [RepC]
  | _ :: _, [], _, hp, _ => by simp [Pairs] at hp
  | _ :: _, [_], _, hp, _ => by simp [Pairs] at hp
  | p :: ps, x :: y :: xs, off, hp, hc => by
    simp only [RepC]
    refine ⟨⟨x, y, by simpa using hc 0 x rfl, hc 1 y rfl, hp.1⟩, Pairs.cells ps xs (off + 2) hp.2 fun j u hj => ?_⟩
    have := hc (j + 2) u (by simpa using hj)
    rw [show off + 2 + j = off + (j + 2) from by omega]; exact this

/-- A slice of trees in a row of the call's own, from block 'base' on; the trees' own blocks lie from 'base' on, too, and are not the row. -/
def TRow (w : World) (base : Nat) (e : TypeId) (v : Value) (ps : List Tree) : Prop :=
  ∃ xs, w.ownsRow base e 2 v ps.length xs ∧ Pairs w (fun b => base ≤ b ∧ b < w.heap.size ∧ v.ownBlock ≠ some b) ps xs

theorem TRow.nil (w : World) (base : Nat) (e : TypeId) : TRow w base e (.slice none 0 0) [] := ⟨[], World.ownsRow_nil _ _ _ _, trivial⟩

theorem keeps_of_blocks {A : Nat → Prop} {w w' : World} (h : ∀ b, A b → w'.heap[b]? = w.heap[b]?) : Keeps A w w' :=
  fun b o _ ha hc => (World.cell?_of_block (w := w) (a := ⟨b, o, none⟩) (h b ha)).trans hc

theorem TRow.keep {w w' : World} {base : Nat} {e : TypeId} {v : Value} {ps : List Tree} (h : TRow w base e v ps) (hk : ∀ b, base ≤ b → b < w.heap.size → w'.heap[b]? = w.heap[b]?) (hs : w.heap.size ≤ w'.heap.size) :
    TRow w' base e v ps := by
  obtain ⟨xs, h1, h2⟩ := h
  refine ⟨xs, ?_, Pairs.keep (keeps_of_blocks fun b hb => hk b hb.1 hb.2.1) (fun b hb => ⟨hb.1, by omega, hb.2.2⟩) _ _ h2⟩
  refine ⟨h1.1, ?_⟩
  rcases h1.2 with h | ⟨g, cap, cur, hv, hb, hg, r⟩
  · exact .inl h
  · exact .inr ⟨g, cap, cur, hv, hb, by rw [hk g hb (Array.getElem?_eq_some_iff.1 hg).1]; exact hg, r⟩

theorem TRow.below {w w' : World} {base : Nat} {e : TypeId} {v : Value} {ps : List Tree} (h : TRow w base e v ps) (hb : Below w.heap.size w w') : TRow w' base e v ps :=
  h.keep (fun b _ hl => hb.block b hl) hb.size

theorem TRow.alloc {w : World} {base : Nat} {e : TypeId} {v : Value} {ps : List Tree} (h : TRow w base e v ps) (o : Obj) : TRow (w.alloc o) base e v ps :=
  h.below ((Below.refl _ _).alloc (Nat.le_refl _) _)

theorem TRow.setCell {w : World} {base : Nat} {e : TypeId} {v : Value} {ps : List Tree} (h : TRow w base e v ps) {a : Addr} (ha : a.block < base) (u : Value) : TRow (w.setCell a u) base e v ps :=
  h.keep (fun b hb _ => Below.heap_setCell _ _ _ _ (by omega)) (by simp [World.setCell])

theorem TRow.drew {w : World} {base : Nat} {e : TypeId} {v : Value} {ps : List Tree} (h : TRow w base e v ps) : TRow w.drew base e v ps :=
  h.keep (fun _ _ _ => rfl) (Nat.le_refl _)

/-- The row, read as a tree's parts. -/
theorem TRow.rep {w : World} {base : Nat} {e : TypeId} {o : Option Addr} {n c : Nat} {ps : List Tree} (h : TRow w base e (.slice o n c) ps) (s : ByteArray) :
    Rep w (fun b => base ≤ b) (.node s ps) (.agg #[.string s, .slice o n c]) := by
  obtain ⟨xs, h1, h2⟩ := h
  simp only [Rep]
  refine ⟨o, n, c, rfl, ?_, ?_⟩
  case refine_2 =>
    rcases h1.2 with ⟨hv, hn⟩ | ⟨g, cap, cur, hv, hb, hg, hnc, hcm, hcs, htake⟩
    · simp only [Value.slice.injEq] at hv; omega
    · simp only [Value.slice.injEq] at hv; omega
  rcases h1.2 with ⟨hv, hn⟩ | ⟨g, cap, cur, hv, hb, hg, hnc, hcm, hcs, htake⟩
  · simp only [Value.slice.injEq] at hv
    obtain ⟨_, rfl, _⟩ := hv
    have : ps = [] := List.eq_nil_of_length_eq_zero hn
    subst this
    exact RepS.nil _ _ _
  · simp only [Value.slice.injEq] at hv
    obtain ⟨rfl, rfl, rfl⟩ := hv
    cases ps with
    | nil => exact RepS.nil _ _ _
    | cons p ps =>
      simp only [RepS]
      refine ⟨g, 0, rfl, by simp, hb, ?_⟩
      refine Pairs.cells (p :: ps) xs 0 (Pairs.keep (fun _ _ _ _ h => h) (fun b hb => hb.1) _ _ h2) fun j u hj => ?_
      have := h1.cells (g := g) rfl j u hj
      rw [show (⟨g, 0, none⟩ : Addr).add j = ⟨g, 0 + j, none⟩ from by unfold Addr.add; split <;> simp_all] at this
      exact this

theorem TRow.len {w : World} {base : Nat} {e : TypeId} {o : Option Addr} {n c : Nat} {ps : List Tree} (h : TRow w base e (.slice o n c) ps) : n = ps.length := by
  obtain ⟨xs, h1, _⟩ := h
  rcases h1.2 with ⟨hv, hn⟩ | ⟨g, cap, cur, hv, _⟩
  · simp only [Value.slice.injEq] at hv; omega
  · simp only [Value.slice.injEq] at hv; omega

theorem TRow.ownLt {w : World} {base : Nat} {e : TypeId} {v : Value} {ps : List Tree} (h : TRow w base e v ps) {k : Nat} (hk : v.ownBlock = some k) : base ≤ k ∧ k < w.heap.size := by
  obtain ⟨xs, h1, _⟩ := h
  exact h1.lt k hk

/-- One part is appended. -/
theorem run_append_tree {P : Program} (w : World) (base : Nat) (t ty e : TypeId) (i : TypeInfo) (z : Value) (bytes : Nat) (ht : P.underlying t = some (.slice e)) (hi : P.info? e = some i) (hz : i.zero = some z)
    (hsize : i.size = 2) (hby : i.bytes = bytes) (hzs : z.cells.size = 2) (hb64 : bytes ≤ 64) (v : Value) (ps : List Tree) (hrow : TRow w base e v ps) (b off c : Nat) (p : Tree) (x y : Value)
    (hx : w.cell? ⟨b, off, none⟩ = some x) (hy : w.cell? ⟨b, off + 1, none⟩ = some y) (hx1 : x.oneCell' = true) (hy1 : y.oneCell' = true) {A : Nat → Prop} (hp : Rep w A p (.agg #[x, y]))
    (hA : ∀ b, A b → base ≤ b ∧ b < w.heap.size ∧ v.ownBlock ≠ some b) (hn : ps.length ≤ 1000000000) (hbase : base ≤ w.heap.size) :
    ∃ g cap w', (Builtin.append_ #[t, t] ty #[v, .slice (some ⟨b, off, none⟩) 1 c]).run P w = .ok (.slice (some ⟨g, 0, none⟩) (ps.length + 1) cap) w' ∧
      TRow w' base e (.slice (some ⟨g, 0, none⟩) (ps.length + 1) cap) (ps ++ [p]) ∧ Below base w w' := by
  obtain ⟨xs, h1, h2⟩ := hrow
  have hadd : ∀ j, (⟨b, off, none⟩ : Addr).add j = ⟨b, off + j, none⟩ := by intro j; unfold Addr.add; split <;> simp_all
  obtain ⟨g, cap, w', hr, k1, k2, k3⟩ := run_append_own2 (P := P) w base t ty e i z 2 bytes ht hi hz hsize hby hzs (by decide) v ps.length xs h1 ⟨b, off, none⟩ 1 c [x, y] rfl
    (by intro j u hj
        rw [hadd]
        match j, hj with
        | 0, hj => simp at hj; subst hj; simpa using hx
        | 1, hj => simp at hj; subst hj; exact hy)
    (by intro u hu; simp at hu; rcases hu with rfl | rfl <;> assumption) (by decide) (by simp only [maxLen]; omega)
    (by have := Nat.mul_le_mul (show ps.length + 1 ≤ 1000000001 by omega) hb64; omega) hbase
  have hlt : ∀ b, v.ownBlock = some b → base ≤ b ∧ b < w.heap.size := h1.lt
  have hne : ∀ b, base ≤ b ∧ b < w.heap.size ∧ v.ownBlock ≠ some b → base ≤ b ∧ b < w'.heap.size ∧ Value.ownBlock (.slice (some ⟨g, 0, none⟩) (ps.length + 1) cap) ≠ some b := by
    intro b hb
    refine ⟨hb.1, Nat.lt_of_lt_of_le hb.2.1 k2.size, ?_⟩
    simp only [Value.ownBlock, ne_eq, Option.some.injEq]
    intro hgb
    subst hgb
    rcases k3 with k3 | k3
    · exact hb.2.2 k3
    · omega
  have hkeep : Keeps (fun b => base ≤ b ∧ b < w.heap.size ∧ v.ownBlock ≠ some b) w w' := keeps_of_blocks fun b hb => k2.block b hb.2.1 (fun e => hb.2.2 e.symm)
  refine ⟨g, cap, w', hr, ⟨xs ++ [x, y], by simpa using k1, Pairs.snoc ?_ _ _ (Pairs.keep hkeep hne _ _ h2)⟩, ?_⟩
  · exact Rep.weak hne _ _ (Rep.keep hkeep _ _ (Rep.weak hA _ _ hp))
  · exact ((Below.refl base w).grown k2 hbase (fun k hk => (hlt k hk).1))

theorem wpList_append_tree {P : Program} {ops : Array Oper} {rest : List Oper} {o : Oper} {a : Act} {Q : Exit → Act → World → Prop} {w : World} (hgd : o.guard = none) (s x0 : Operand) (t : TypeId)
    (ho : o.op = .call { callee := .builtin .append, args := #[s, x0], argTypes := #[t, t] })
    (base : Nat) (e : TypeId) (i : TypeInfo) (z : Value) (bytes : Nat) (ht : P.underlying t = some (.slice e)) (hi : P.info? e = some i) (hz : i.zero = some z)
    (hsize : i.size = 2) (hby : i.bytes = bytes) (hzs : z.cells.size = 2) (hb64 : bytes ≤ 64) (v : Value) (hs : a.eval s = v) (ps : List Tree) (hrow : TRow w base e v ps) (b off c : Nat) (hx0 : a.eval x0 = .slice (some ⟨b, off, none⟩) 1 c) (p : Tree) (x y : Value)
    (hx : w.cell? ⟨b, off, none⟩ = some x) (hy : w.cell? ⟨b, off + 1, none⟩ = some y) (hx1 : x.oneCell' = true) (hy1 : y.oneCell' = true) {A : Nat → Prop} (hp : Rep w A p (.agg #[x, y]))
    (hA : ∀ b, A b → base ≤ b ∧ b < w.heap.size ∧ v.ownBlock ≠ some b) (hn : ps.length ≤ 1000000000) (hbase : base ≤ w.heap.size)
    (h : ∀ g cap w', TRow w' base e (.slice (some ⟨g, 0, none⟩) (ps.length + 1) cap) (ps ++ [p]) → Below base w w' → wpList P ops Q rest (a.put o.dst (.slice (some ⟨g, 0, none⟩) (ps.length + 1) cap)) w') : wpList P ops Q (o :: rest) a w := by
  obtain ⟨g, cap, w', hr, k1, k2⟩ := run_append_tree (P := P) w base t o.type e i z bytes ht hi hz hsize hby hzs hb64 v ps hrow b off c p x y hx hy hx1 hy1 hp hA hn hbase
  refine wpList_plain hgd fun K hK => ?_
  unfold Oper.wp execOp
  simp only [ho, resolve, invoke, builtin, Sem.run_bind, Sem.run_pure, Result.andThen_ok, List.map_toArray, List.map_cons, List.map_nil, hs, hx0, hr]
  exact hK _ _ (h g cap w' k1 k2)

theorem two_new (w : World) (x y : Value) (ty : TypeId) : (w.alloc (.cells #[x, y] ty)).cell? ⟨w.heap.size, 0, none⟩ = some x ∧ (w.alloc (.cells #[x, y] ty)).cell? ⟨w.heap.size, 1, none⟩ = some y := by
  have h := heap_alloc_new w (.cells #[x, y] ty)
  exact ⟨by simp only [World.cell?, h]; rfl, by simp only [World.cell?, h]; rfl⟩

theorem frozen_new (w : World) (c : Array Value) (ty : TypeId) (j : Nat) : (w.alloc (.cells c ty)).frozen? ⟨w.heap.size, j, none⟩ = false := by
  have h := heap_alloc_new w (.cells c ty)
  simp only [World.frozen?, h]; simp

/-- The same, the part in the box of one element that the call of append has just laid. -/
theorem wpList_append_box {P : Program} {ops : Array Oper} {rest : List Oper} {o : Oper} {a : Act} {Q : Exit → Act → World → Prop} {W : World} (hgd : o.guard = none) (s x0 : Operand) (t : TypeId)
    (ho : o.op = .call { callee := .builtin .append, args := #[s, x0], argTypes := #[t, t] })
    (base : Nat) (e : TypeId) (i : TypeInfo) (z : Value) (bytes : Nat) (ht : P.underlying t = some (.slice e)) (hi : P.info? e = some i) (hz : i.zero = some z)
    (hsize : i.size = 2) (hby : i.bytes = bytes) (hzs : z.cells.size = 2) (hb64 : bytes ≤ 64) (v : Value) (hs : a.eval s = v) (ps : List Tree) (b c ty : Nat) (hx0 : a.eval x0 = .slice (some ⟨b, 0, none⟩) 1 c) (hb : b = W.heap.size) (p : Tree) (x y : Value)
    (hx1 : x.oneCell' = true) (hy1 : y.oneCell' = true) {A : Nat → Prop} (hrow : TRow W base e v ps) (hp : Rep W A p (.agg #[x, y]))
    (hA : ∀ b, A b → base ≤ b ∧ b < W.heap.size ∧ v.ownBlock ≠ some b) (hn : ps.length ≤ 1000000000) (hbase : base ≤ W.heap.size)
    (h : ∀ g cap w', TRow w' base e (.slice (some ⟨g, 0, none⟩) (ps.length + 1) cap) (ps ++ [p]) → Below base W w' → wpList P ops Q rest (a.put o.dst (.slice (some ⟨g, 0, none⟩) (ps.length + 1) cap)) w') :
    wpList P ops Q (o :: rest) a (W.alloc (.cells #[x, y] ty)) := by
  subst hb
  obtain ⟨c1, c2⟩ := two_new W x y ty
  refine wpList_append_tree hgd s x0 t ho base e i z bytes ht hi hz hsize hby hzs hb64 v hs ps (hrow.alloc _) W.heap.size 0 c hx0 p x y c1 c2 hx1 hy1 (Rep.keep (Keeps.alloc _ _ _) _ _ hp) (fun b hb => ?_) hn (by simp; omega) fun g cap w' k1 k2 => h g cap w' k1 (((Below.refl base W).alloc hbase _).trans k2)
  have := hA b hb
  exact ⟨this.1, by simp; omega, this.2.2⟩
end Go.Proofs.YtpamfjbgnpmmoaaGreatDoor
