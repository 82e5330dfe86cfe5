/- Plain expressions: of the reference, the walk. -/
import Derived.Test.YtoihkjnfklogpaaRenW
import Derived.Test.YtoihkjnfklogpaaTrees
import Derived.Test.YtoihkjnfklogpaaFree
import Derived.Test.YtoihkjnfklogpaaBeside
import Derived.Deep.Cut
import Derived.Deep.CutRange
namespace Go.Proofs.Ytoihkjnfklogpaa
open Go.RowKit

theorem infoTreeR : (Try.prog.info? 40).map (fun i => (i.zero, i.size, i.bytes)) = some (some (.agg #[.string ⟨#[]⟩, .slice none 0 0]), 2, 40) := by kernel_rfl

/-- Several texts are appended to a row: with a name for the length. -/
theorem step_append_strsN {ops : Array Oper} {o : Oper} {a : Act} {K : Act → World → Prop} {Q : Exit → Act → World → Prop} {E : Prop} {w : World} (hgd : o.guard = none) (s x0 : Operand)
    (ho : o.op = .call { callee := .builtin .append, args := #[s, x0], argTypes := #[23, 23] })
    (base : Nat) (v : Value) (hs : a.eval s = v) (l : List ByteArray) (oa : Option Addr) (m c : Nat) (hx0 : a.eval x0 = .slice oa m c) (qs : List ByteArray) (N : Nat) (hN : l.length + qs.length = N)
    (hrow : SRow w base v l) (hq : Strs w oa m qs) (hn : N ≤ 1000000000) (hbase : base ≤ w.heap.size)
    (h : ∀ o' c' w', SRow w' base (.slice o' N c') (l ++ qs) → w.grownBy w' v.ownBlock → K (a.put o.dst (.slice o' N c')) w') : if Region.wanted o (yielded ops a.tmps) = true then Oper.wp Try.prog o a w K Q else E := by
  subst hN
  exact step_append_strs hgd s x0 ho base v hs l oa m c hx0 qs hrow hq hn hbase h
theorem wpList_append_strsN {ops : Array Oper} {rest : List Oper} {o : Oper} {a : Act} {Q : Exit → Act → World → Prop} {w : World} (hgd : o.guard = none) (s x0 : Operand)
    (ho : o.op = .call { callee := .builtin .append, args := #[s, x0], argTypes := #[23, 23] })
    (base : Nat) (v : Value) (hs : a.eval s = v) (l : List ByteArray) (oa : Option Addr) (m c : Nat) (hx0 : a.eval x0 = .slice oa m c) (qs : List ByteArray) (N : Nat) (hN : l.length + qs.length = N)
    (hrow : SRow w base v l) (hq : Strs w oa m qs) (hn : N ≤ 1000000000) (hbase : base ≤ w.heap.size)
    (h : ∀ o' c' w', SRow w' base (.slice o' N c') (l ++ qs) → w.grownBy w' v.ownBlock → wpList Try.prog ops Q rest (a.put o.dst (.slice o' N c')) w') : wpList Try.prog ops Q (o :: rest) a w := by
  subst hN
  exact wpList_append_strs hgd s x0 ho base v hs l oa m c hx0 qs hrow hq hn hbase h

theorem strsTwo {w : World} {b : Nat} {x y : ByteArray} {ty : TypeId} (h : w.heap[b]? = some (.cells #[.string x, .string y] ty (0, 0))) : Strs w (some ⟨b, 0, none⟩) 2 [x, y] := by
  refine ⟨rfl, .inr ⟨b, 0, rfl, fun i s hi => ?_⟩⟩
  match i, hi with
  | 0, hi => cases hi; simp only [World.cell?, h]; rfl
  | 1, hi => cases hi; simp only [World.cell?, h]; rfl
  | (n + 2), hi => simp at hi
theorem strsOne {w : World} {b : Nat} {x : ByteArray} {ty : TypeId} (h : w.heap[b]? = some (.cells #[.string x] ty (0, 0))) : Strs w (some ⟨b, 0, none⟩) 1 [x] := by
  refine ⟨rfl, .inr ⟨b, 0, rfl, fun i s hi => ?_⟩⟩
  match i, hi with
  | 0, hi => cases hi; simp only [World.cell?, h]; rfl
  | (n + 1), hi => simp at hi
set_option maxRecDepth 100000 in
set_option maxHeartbeats 400000 in
theorem l1Atom_any (s : ByteArray) (w : World) : Calls Try.prog 105 #[.string s] w fun e w' => e = .returned (.agg #[.string s, .slice none 0 0]) ∧ Stp w w' := by
  go_enter Try.func105, Try.ntmps105
  go_wp2
  exact bodyPost_ret (v := .agg #[.string s, .slice none 0 0]) (by simp [results, Try.results105, go_sem]) rfl ⟨rfl, by unfold Stp; repeat' (first | exact Below.refl _ _ | refine Below.setCell ?_ (by simp) _ | refine Below.alloc ?_ (by simp) _)⟩

/-- The world within a call that renames: the boxes of the form and of the result, the row that is made, the renamer. -/
structure PSt (w : World) (B9 g M cap rb : Nat) (tc : Array Value) (C : Nat → Prop) (af : Option Addr) (lf cf : Nat) (F : List ByteArray) (R : List (Option Addr × Nat × List ByteArray)) (W : World) (L : List Tree) (n : Nat) : Prop where
  t : W.heap[w.heap.size]? = some (.cells tc 40 (0, 0))
  r : W.heap[w.heap.size + 1]? = some (.cells #[.string ⟨#[]⟩, .slice none 0 0] 40 (0, 0))
  o : W.heap[B9]? = some (.cells #[.string ⟨#[]⟩, .slice (some ⟨g, 0, none⟩) M cap] 40 (0, 0))
  u : URow W (w.heap.size + 1 + 1) C 40 (.slice (some ⟨g, 0, none⟩) M cap) L
  rn : Rn W rb af lf cf F n
  gr : w.grownBy W (some rb)
  ex : ∀ r ∈ R, Strs W r.1 r.2.1 r.2.2 ∧ ∀ x, r.1 = some x → x.block ≠ rb ∧ x.block ≠ g ∧ x.block < W.heap.size

/-- The places of these. -/
structure PFix (w : World) (B9 g rb : Nat) (C : Nat → Prop) (af : Option Addr) : Prop where
  rl : rb < w.heap.size
  gl : w.heap.size + 1 + 1 ≤ g
  g9 : g < B9
  nc : ¬ C rb
  al : ∀ x, af = some x → x.block < w.heap.size

theorem PSt.call {w W W' : World} {B9 g M cap rb lf cf n m : Nat} {tc : Array Value} {C : Nat → Prop} {af : Option Addr} {F : List ByteArray} {R : List (Option Addr × Nat × List ByteArray)} {L : List Tree} (f : PFix w B9 g rb C af) (h : PSt w B9 g M cap rb tc C af lf cf F R W L n)
    (hg : W.grownBy W' (some rb)) (hr : Rn W' rb af lf cf F m) : PSt w B9 g M cap rb tc C af lf cf F R W' L m := by
  have k : ∀ x, x < W.heap.size → x ≠ rb → W'.heap[x]? = W.heap[x]? := fun x hx hne => hg.block x hx (by simpa using hne)
  have hl := f.rl; have h2 := f.gl; have h3 := f.g9
  have ht := (Array.getElem?_eq_some_iff.1 h.t).1
  have hr' := (Array.getElem?_eq_some_iff.1 h.r).1
  have ho := (Array.getElem?_eq_some_iff.1 h.o).1
  exact ⟨(k _ ht (by omega)).trans h.t, (k _ hr' (by omega)).trans h.r, (k _ ho (by omega)).trans h.o, h.u.grown hg (by omega) f.nc, hr, grownBy_trans h.gr hg, fun r hm => ⟨(h.ex r hm).1.grown hg (fun a ha => by simpa using ((h.ex r hm).2 a ha).1), fun x hx => ⟨((h.ex r hm).2 x hx).1, ((h.ex r hm).2 x hx).2.1, Nat.lt_of_lt_of_le ((h.ex r hm).2 x hx).2.2 hg.size⟩⟩⟩

theorem PSt.below {w W W' : World} {B9 g M cap rb lf cf n : Nat} {tc : Array Value} {C : Nat → Prop} {af : Option Addr} {F : List ByteArray} {R : List (Option Addr × Nat × List ByteArray)} {L : List Tree} (f : PFix w B9 g rb C af) (h : PSt w B9 g M cap rb tc C af lf cf F R W L n)
    (hb : Below W.heap.size W W') : PSt w B9 g M cap rb tc C af lf cf F R W' L n := h.call f (grownBy_below hb) (h.rn.below hb)

/-- One more row that is kept. -/
theorem PSt.more {w W : World} {B9 g M cap rb lf cf n : Nat} {tc : Array Value} {C : Nat → Prop} {af : Option Addr} {F : List ByteArray} {R : List (Option Addr × Nat × List ByteArray)} {L : List Tree} (h : PSt w B9 g M cap rb tc C af lf cf F R W L n)
    {o : Option Addr} {k : Nat} {l : List ByteArray} (hs : Strs W o k l) (hx : ∀ x, o = some x → x.block ≠ rb ∧ x.block ≠ g ∧ x.block < W.heap.size) : PSt w B9 g M cap rb tc C af lf cf F ((o, k, l) :: R) W L n :=
  ⟨h.t, h.r, h.o, h.u, h.rn, h.gr, fun r hm => by
    rcases List.mem_cons.1 hm with rfl | hm
    · exact ⟨hs, hx⟩
    · exact h.ex r hm⟩

theorem PSt.set {w W : World} {B9 g M cap rb lf cf n i : Nat} {tc : Array Value} {C : Nat → Prop} {af : Option Addr} {F : List ByteArray} {R : List (Option Addr × Nat × List ByteArray)} {L : List Tree} (f : PFix w B9 g rb C af) (h : PSt w B9 g M cap rb tc C af lf cf F R W L n)
    (hi : i < L.length) {u : Tree} {x y : Value} {A : Nat → Prop} (hu : Rep W A u (.agg #[x, y])) (hA : ∀ b, A b → (C b ∨ w.heap.size + 1 + 1 ≤ b) ∧ b < W.heap.size ∧ b ≠ g) :
    PSt w B9 g M cap rb tc C af lf cf F R ((W.setCell ⟨g, 2 * i, none⟩ x).setCell ⟨g, 2 * i + 1, none⟩ y) (L.set i u) n := by
  have hl := f.rl; have h2 := f.gl; have h3 := f.g9
  have k : ∀ b, b ≠ g → ((W.setCell ⟨g, 2 * i, none⟩ x).setCell ⟨g, 2 * i + 1, none⟩ y).heap[b]? = W.heap[b]? := fun b hb =>
    (Below.heap_setCell _ _ _ _ hb).trans (Below.heap_setCell _ _ _ _ hb)
  have hsz : ((W.setCell ⟨g, 2 * i, none⟩ x).setCell ⟨g, 2 * i + 1, none⟩ y).heap.size = W.heap.size := by simp [World.setCell]
  have hg : w.grownBy ((W.setCell ⟨g, 2 * i, none⟩ x).setCell ⟨g, 2 * i + 1, none⟩ y) (some rb) := ⟨h.gr.os, h.gr.tape, h.gr.output, by rw [hsz]; exact h.gr.size, fun b hb hne => (k b (by omega)).trans (h.gr.block b hb hne)⟩
  obtain ⟨r1, r2, r3⟩ := h.rn
  refine ⟨(k _ (by omega)).trans h.t, (k _ (by omega)).trans h.r, (k _ (by omega)).trans h.o, h.u.set hi hu hA, ⟨(k _ (by omega)).trans r1, ?_, fun x hx => ⟨(r3 x hx).1, by rw [hsz]; exact (r3 x hx).2⟩⟩, hg, fun r hm => ⟨(h.ex r hm).1.blocks (fun a ha => k a.block ((h.ex r hm).2 a ha).2.1), fun x hx => ⟨((h.ex r hm).2 x hx).1, ((h.ex r hm).2 x hx).2.1, by rw [hsz]; exact ((h.ex r hm).2 x hx).2.2⟩⟩⟩
  exact r2.blocks fun a ha => k a.block (by have := f.al a ha; omega)

/-- The cells that a part of the row has. -/
theorem PSt.at {w W : World} {B9 g M cap rb lf cf n : Nat} {tc : Array Value} {C : Nat → Prop} {af : Option Addr} {F : List ByteArray} {R : List (Option Addr × Nat × List ByteArray)} {L : List Tree} (h : PSt w B9 g M cap rb tc C af lf cf F R W L n)
    {i : Nat} (hi : i < L.length) : ∃ x y, W.cell? ⟨g, 2 * i, none⟩ = some x ∧ W.cell? ⟨g, 2 * i + 1, none⟩ = some y ∧ W.frozen? ⟨g, 2 * i, none⟩ = false ∧ W.frozen? ⟨g, 2 * i + 1, none⟩ = false ∧ M = L.length ∧ M ≤ cap := by
  obtain ⟨cur, h1, h2, h3, h4, h5⟩ := h.u.blk
  have e1 : 2 * i < cur.size := by omega
  have e2 : 2 * i + 1 < cur.size := by omega
  exact ⟨cur[2 * i], cur[2 * i + 1], by simp [World.cell?, h1, e1], by simp [World.cell?, h1, e2], Lib.frozen_of_heap h1 _, Lib.frozen_of_heap h1 _, h5, h3⟩

/-- The row, and the next number, behind the first m parts. -/
def rowAt (F : List ByteArray) (P0 K : List Tree) (fr tt : List ByteArray) (n m : Nat) : List Tree := P0 ++ ((Tree.renL F (K.take m) fr tt n).1 ++ K.drop m)
def cntAt (F : List ByteArray) (K : List Tree) (fr tt : List ByteArray) (n m : Nat) : Nat := (Tree.renL F (K.take m) fr tt n).2
theorem renL_append (F : List ByteArray) (fr tt : List ByteArray) : ∀ (l : List Tree) (x : Tree) (n : Nat), Tree.renL F (l ++ [x]) fr tt n = ((Tree.renL F l fr tt n).1 ++ [(x.ren F fr tt (Tree.renL F l fr tt n).2).1], (x.ren F fr tt (Tree.renL F l fr tt n).2).2)
  | [], x, n => by simp [Tree.renL]
  | p :: l, x, n => by simp only [List.cons_append, Tree.renL, renL_append F fr tt l x]
theorem rowAt_zero (F : List ByteArray) (P0 K : List Tree) (fr tt : List ByteArray) (n : Nat) : rowAt F P0 K fr tt n 0 = P0 ++ K ∧ cntAt F K fr tt n 0 = n := by simp [rowAt, cntAt, Tree.renL]
theorem rowAt_len (F : List ByteArray) (P0 K : List Tree) (fr tt : List ByteArray) (n m : Nat) (h : m ≤ K.length) : (rowAt F P0 K fr tt n m).length = P0.length + K.length := by
  unfold rowAt
  rw [List.length_append, List.length_append, renL_length, List.length_take, List.length_drop]
  omega
theorem rowAt_next {F : List ByteArray} {P0 K : List Tree} {fr tt : List ByteArray} {n m : Nat} {q : Tree} (h : K[m]? = some q) :
    (rowAt F P0 K fr tt n m).set (P0.length + m) (q.ren F fr tt (cntAt F K fr tt n m)).1 = rowAt F P0 K fr tt n (m + 1) ∧ cntAt F K fr tt n (m + 1) = (q.ren F fr tt (cntAt F K fr tt n m)).2 := by
  have hm := (List.getElem?_eq_some_iff.1 h).1
  have ht : K.take (m + 1) = K.take m ++ [q] := by rw [List.take_add_one, h]; rfl
  have hd : K.drop m = q :: K.drop (m + 1) := by
    rw [List.drop_eq_getElem_cons hm]
    congr 1
    rw [List.getElem?_eq_getElem hm] at h
    exact Option.some.inj h
  have hl : (Tree.renL F (K.take m) fr tt n).1.length = m := by rw [renL_length, List.length_take]; omega
  unfold rowAt cntAt
  rw [ht, renL_append]
  refine ⟨?_, rfl⟩
  rw [List.set_append_right _ _ (by omega), Nat.add_sub_cancel_left, List.set_append_right _ _ (by omega), hl, Nat.sub_self, hd]
  simp
theorem rowAt_end (F : List ByteArray) (P0 K : List Tree) (fr tt : List ByteArray) (n m : Nat) (h : K.length ≤ m) : rowAt F P0 K fr tt n m = P0 ++ (Tree.renL F K fr tt n).1 ∧ cntAt F K fr tt n m = (Tree.renL F K fr tt n).2 := by
  unfold rowAt cntAt
  rw [List.take_of_length_le h, List.drop_eq_nil_of_le h, List.append_nil]
  exact ⟨rfl, rfl⟩
theorem cntAt_le (F : List ByteArray) (fr tt : List ByteArray) : ∀ (K : List Tree), (∀ q ∈ K, q.isExpr = true) → ∀ (n m : Nat), cntAt F K fr tt n m ≤ (Tree.renL F K fr tt n).2
  | [], _, n, m => by simp [cntAt, Tree.renL]
  | p :: K, h, n, 0 => by
    have := renL_ge F fr tt (p :: K) (fun q hq n => ren_ge F _ q fr tt n (Nat.le_refl _) (h q hq)) n
    simpa [cntAt, Tree.renL] using this
  | p :: K, h, n, m + 1 => by
    have := cntAt_le F fr tt K (fun q hq => h q (by simp [hq])) (p.ren F fr tt n).2 m
    simpa [cntAt, Tree.renL] using this

theorem PSt.set' {w W : World} {B9 g M cap rb lf cf n i k : Nat} {tc : Array Value} {C : Nat → Prop} {af : Option Addr} {F : List ByteArray} {R : List (Option Addr × Nat × List ByteArray)} {L : List Tree} (f : PFix w B9 g rb C af) (h : PSt w B9 g M cap rb tc C af lf cf F R W L n)
    (hi : i < L.length) (hk : k = 2 * i) {u : Tree} {x y : Value} {A : Nat → Prop} (hu : Rep W A u (.agg #[x, y])) (hA : ∀ b, A b → (C b ∨ w.heap.size + 1 + 1 ≤ b) ∧ b < W.heap.size ∧ b ≠ g) :
    PSt w B9 g M cap rb tc C af lf cf F R ((W.setCell ⟨g, k, none⟩ x).setCell ⟨g, k + 1, none⟩ y) (L.set i u) n := by subst hk; exact h.set f hi hu hA
theorem PSt.at' {w W : World} {B9 g M cap rb lf cf n : Nat} {tc : Array Value} {C : Nat → Prop} {af : Option Addr} {F : List ByteArray} {R : List (Option Addr × Nat × List ByteArray)} {L : List Tree} (h : PSt w B9 g M cap rb tc C af lf cf F R W L n)
    {i k : Nat} (hi : i < L.length) (hk : k = 2 * i) : ∃ x y, W.cell? ⟨g, k, none⟩ = some x ∧ W.cell? ⟨g, k + 1, none⟩ = some y ∧ W.frozen? ⟨g, k, none⟩ = false ∧ W.frozen? ⟨g, k + 1, none⟩ = false ∧ M = L.length ∧ M ≤ cap := by subst hk; exact h.at hi

theorem pst_end {w W : World} {B9 g M cap rb lf cf n : Nat} {tc : Array Value} {C : Nat → Prop} {af : Option Addr} {F : List ByteArray} {R : List (Option Addr × Nat × List ByteArray)} {L : List Tree} (f : PFix w B9 g rb C af) (h : PSt w B9 g M cap rb tc C af lf cf F R W L n) (hC : ∀ b, C b → b < w.heap.size) (v0 v1 : Value) :
    Rep ((W.setCell ⟨w.heap.size + 1, 0, none⟩ v0).setCell ⟨w.heap.size + 1, 1, none⟩ v1) (fun b => C b ∨ w.heap.size ≤ b) (.node ⟨#[]⟩ L) (.agg #[.string ⟨#[]⟩, .slice (some ⟨g, 0, none⟩) M cap]) ∧
    Rn ((W.setCell ⟨w.heap.size + 1, 0, none⟩ v0).setCell ⟨w.heap.size + 1, 1, none⟩ v1) rb af lf cf F n ∧ w.grownBy ((W.setCell ⟨w.heap.size + 1, 0, none⟩ v0).setCell ⟨w.heap.size + 1, 1, none⟩ v1) (some rb) := by
  have hl := f.rl
  have k : ∀ b, b ≠ w.heap.size + 1 → ((W.setCell ⟨w.heap.size + 1, 0, none⟩ v0).setCell ⟨w.heap.size + 1, 1, none⟩ v1).heap[b]? = W.heap[b]? := fun b hb =>
    (Below.heap_setCell _ _ _ _ hb).trans (Below.heap_setCell _ _ _ _ hb)
  have hsz : ((W.setCell ⟨w.heap.size + 1, 0, none⟩ v0).setCell ⟨w.heap.size + 1, 1, none⟩ v1).heap.size = W.heap.size := by simp [World.setCell]
  obtain ⟨r1, r2, r3⟩ := h.rn
  refine ⟨?_, ⟨(k _ (by omega)).trans r1, r2.blocks fun a ha => k a.block (by have := f.al a ha; omega), fun x hx => ⟨(r3 x hx).1, by rw [hsz]; exact (r3 x hx).2⟩⟩,
    ⟨h.gr.os, h.gr.tape, h.gr.output, by rw [hsz]; exact h.gr.size, fun b hb hne => (k b (by omega)).trans (h.gr.block b hb hne)⟩⟩
  refine Rep.weak (fun b hb => hb.imp id (by omega)) _ _ (Rep.keep (keeps_of_blocks fun b hb => k b ?_) _ _ (h.u.rep ⟨#[]⟩))
  rcases hb with hb | hb
  · have := hC b hb; omega
  · omega

theorem pst_start {w w2 : World} {g M cap rb lf cf n : Nat} {tc : Array Value} {C : Nat → Prop} {af : Option Addr} {F : List ByteArray} {L : List Tree} (hU : URow w2 (w.heap.size + 1 + 1) C 40 (.slice (some ⟨g, 0, none⟩) M cap) L)
    (hb : Below (w.heap.size + 1 + 1) (((w.alloc (.cells tc 40)).alloc (.cells #[.string ⟨#[]⟩, .slice none 0 0] 40)).alloc (.cells #[] 40)) w2) (hr : Rn w rb af lf cf F n) (hC : ¬ C rb) (hal : ∀ x, af = some x → x.block < w.heap.size) :
    PFix w w2.heap.size g rb C af ∧ PSt w w2.heap.size g M cap rb tc C af lf cf F [] (w2.alloc (.cells #[.string ⟨#[]⟩, .slice (some ⟨g, 0, none⟩) M cap] 40)) L n ∧ w2.heap[w.heap.size]? = some (.cells tc 40 (0, 0)) ∧ Below w.heap.size w w2 := by
  have hsz := hb.size
  simp only [World.size_alloc] at hsz
  have hl := hU.ownLt (k := g) rfl
  have hrl := hr.lt
  have hBw : Below w.heap.size w w2 := (((((Below.refl w.heap.size w).alloc (Nat.le_refl _) (.cells tc 40)).alloc (by simp) (.cells #[.string ⟨#[]⟩, .slice none 0 0] 40)).alloc (by simp; omega) (.cells #[] 40))).trans (hb.mono (by omega))
  have hBf : Below w.heap.size w (w2.alloc (.cells #[.string ⟨#[]⟩, .slice (some ⟨g, 0, none⟩) M cap] 40)) := hBw.alloc (by omega) _
  have h0 : (((w.alloc (.cells tc 40)).alloc (.cells #[.string ⟨#[]⟩, .slice none 0 0] 40)).alloc (.cells #[] 40)).heap[w.heap.size]? = some (.cells tc 40 (0, 0)) := by
    rw [Below.heap_alloc _ _ _ (by simp; omega), Below.heap_alloc _ _ _ (by simp)]
    exact heap_alloc_new w _
  have h1 : (((w.alloc (.cells tc 40)).alloc (.cells #[.string ⟨#[]⟩, .slice none 0 0] 40)).alloc (.cells #[] 40)).heap[w.heap.size + 1]? = some (.cells #[.string ⟨#[]⟩, .slice none 0 0] 40 (0, 0)) := by
    rw [Below.heap_alloc _ _ _ (by simp)]
    have h := heap_alloc_new (w.alloc (.cells tc 40)) (.cells #[.string ⟨#[]⟩, .slice none 0 0] 40)
    rwa [World.size_alloc] at h
  refine ⟨⟨hrl, hl.1, hl.2, hC, hal⟩, ⟨?_, ?_, heap_alloc_new w2 _, hU.alloc _, hr.below hBf, grownBy_below hBf, fun _ h => by cases h⟩, (hb.block _ (by omega)).trans h0, hBw⟩
  · rw [Below.heap_alloc _ _ _ (by omega)]; exact (hb.block _ (by omega)).trans h0
  · rw [Below.heap_alloc _ _ _ (by omega)]; exact (hb.block _ (by omega)).trans h1

/-- What the call hands back. -/
def PlainR (C : Nat → Prop) (t : Tree) (rb : Nat) (af : Option Addr) (lf cf : Nat) (F : List ByteArray) (n : Nat) (w : World) (e : Ending) (w' : World) : Prop :=
  ∃ a o l c, e = .returned (.agg #[.string a, .slice o l c]) ∧ Rep w' C t (.agg #[.string a, .slice o l c]) ∧ Rn w' rb af lf cf F n ∧ w.grownBy w' (some rb)

set_option maxRecDepth 100000 in
set_option maxHeartbeats 12800000 in
theorem l2Plain_any (F : List ByteArray) (rb lf cf : Nat) (af : Option Addr) (hF : F.length ≤ 1000000) (N : Nat) : ∀ (t : Tree) (A : Nat → Prop) (tv : Value) (fr tt : List ByteArray) (o1 o2 : Option Addr) (n1 c1 n2 c2 n : Nat) (w : World), t.sz ≤ N → Rep w A t tv → (∀ b, A b → b ≠ rb ∧ b < w.heap.size) → Strs w o1 n1 fr → Strs w o2 n2 tt →
    (∀ x, o1 = some x → x.block ≠ rb ∧ x.block < w.heap.size) → (∀ x, o2 = some x → x.block ≠ rb ∧ x.block < w.heap.size) → Rn w rb af lf cf F n → fr.length = tt.length → fr.length + 2 * t.sz ≤ 100000 → t.sz ≤ 24000 → t.text.length ≤ 12000 → t.good = true → t.isExpr = true → (∀ x ∈ fr, nameB x.data.toList = true) → (t.ren F fr tt n).2 ≤ 100000 →
    Calls Try.prog 87 #[tv, .slice o1 n1 c1, .slice o2 n2 c2, .pointer (some ⟨rb, 0, none⟩)] w (PlainR (fun b => A b ∨ w.heap.size ≤ b) (t.ren F fr tt n).1 rb af lf cf F (t.ren F fr tt n).2 w) := by
  induction N with
  | zero => intro t A tv fr tt o1 o2 n1 c1 n2 c2 n w h; cases t; simp [Tree.sz] at h
  | succ N ih =>
    intro t A tv fr tt o1 o2 n1 c1 n2 c2 n w hN hr hA h1 h2 hx1 hx2 hrn hft hlen hsz htx hgood hexp hnam hfin
    have hatom := atom_leI hgood
    obtain ⟨s, ps⟩ := t
    have hr' := hr
    simp only [Rep] at hr
    obtain ⟨o, ln, c, rfl, hs, hcap⟩ := hr
    obtain rfl := hs.len
    obtain ⟨hgl, hge⟩ := Tree.good_parts hgood
    have hrl := hrn.lt
    cases ps with
    | nil =>
      have hemp : s.toList.isEmpty = false := by rw [Lib.toList_data]; simpa using hge.1 rfl
      have hemp2 : (s.toList == []) = false := by rw [Lib.toList_data]; simpa using hge.1 rfl
      have hssz : s.size ≤ 1000000000 := by simp only [Tree.atom] at hatom; omega
      have HM := Lib.hid (fun W => l2Name_any s W hssz)
      have HLK : Hid (∀ W, Below w.heap.size w W → Calls Try.prog 106 #[.slice o1 n1 c1, .slice o2 n2 c2, .string s] W fun e w' => e = .returned (.string (look fr tt s)) ∧ W = w') := fun W h => l2Look_any fr tt s o1 o2 n1 c1 n2 c2 W (h1.keep h) (h2.keep h) hft (by have := h1.1; omega)
      have HT : Hid ((Tree.node s []).ren F fr tt n = (if nameB s.data.toList then leafT (look fr tt s) else leafT s, n)) := ren_leaf F s fr tt n
      have HRN := Lib.hid hrn
      have hB2 : Below w.heap.size w ((w.alloc (.cells #[.string s, .slice o 0 c] 40)).alloc (.cells #[.string ⟨#[]⟩, .slice none 0 0] 40)) := ((Below.refl _ _).alloc (Nat.le_refl _) _).alloc (by simp) _
      have HLK2 := Lib.hid (HLK.out _ hB2)
      have HRB : Hid (((w.alloc (.cells #[.string s, .slice o 0 c] 40)).alloc (.cells #[.string ⟨#[]⟩, .slice none 0 0] 40)).heap[w.heap.size + 1]? = some (.cells #[.string ⟨#[]⟩, .slice none 0 0] 40 (0, 0))) := by
        have h := heap_alloc_new (w.alloc (.cells #[.string s, .slice o 0 c] 40)) (.cells #[.string ⟨#[]⟩, .slice none 0 0] 40)
        rwa [World.size_alloc] at h
      have HAT := Lib.hid (fun s W => l1Atom_any s W)
      cases hn : nameB s.data.toList with
      | true =>
        have hT : (Tree.node s []).ren F fr tt n = (leafT (look fr tt s), n) := by rw [HT.out, hn]; rfl
        rw [hT]
        rw [hn] at HM
        clear ih hs hr' hN h1 h2 hx1 hx2 hgl hge hgood hexp hnam hfin hlen htx hsz hatom hrn HT hT hn hA HLK
        generalize look fr tt s = L at *
        go_enter Try.func87, Try.ntmps87
        go_wp2_with fail
        refine (HM.out _).mono ?_
        rintro e w3 ⟨rfl, rfl⟩
        go_wp2_with fail
        refine HLK2.out.mono ?_
        rintro e w4 ⟨rfl, rfl⟩
        go_wp2_with fail
        refine (HAT.out L _).mono ?_
        rintro e w5 ⟨rfl, hst⟩
        have hR5 := (Below.block hst (w.heap.size + 1) (by simp)).trans HRB.out
        have hB5 : Below w.heap.size w w5 := hst.below hB2 (by simp <;> omega)
        obtain ⟨r0, r1⟩ := box_cells hR5
        have fr0 := Lib.frozen_of_heap hR5 0
        have fr1 := Lib.frozen_of_heap hR5 1
        have hBf : Below w.heap.size w ((w5.setCell ⟨w.heap.size + 1, 0, none⟩ (.string L)).setCell ⟨w.heap.size + 1, 1, none⟩ (.slice none 0 0)) := (hB5.setCell (by simp) _).setCell (by simp) _
        go_wp2
        exact bodyPost_ret (v := .agg #[.string L, .slice none 0 0]) (by simp [results, Try.results87, go_sem, r0, r1]) rfl ⟨L, none, 0, 0, rfl, Rep.leaf _ _ _, HRN.out.below hBf, grownBy_below hBf⟩
      | false =>
        have hT : (Tree.node s []).ren F fr tt n = (leafT s, n) := by rw [HT.out, hn]; rfl
        rw [hT]
        rw [hn] at HM
        clear ih hs hr' hN h1 h2 hx1 hx2 hgl hge hgood hexp hnam hfin hlen htx hsz hatom hrn HT hT hn hA HLK HLK2 HAT
        obtain ⟨r0, r1⟩ := box_cells HRB.out
        have fr0 := Lib.frozen_of_heap HRB.out 0
        have fr1 := Lib.frozen_of_heap HRB.out 1
        have HBF : Hid (Below w.heap.size w ((w.alloc (.cells #[.string s, .slice o 0 c] 40)).alloc (.cells #[.string s, .slice o 0 c] 40))) := ((Below.refl _ _).alloc (Nat.le_refl _) _).alloc (by simp) _
        go_enter Try.func87, Try.ntmps87
        go_wp2_with fail
        refine (HM.out _).mono ?_
        rintro e w3 ⟨rfl, rfl⟩
        go_wp2
        exact bodyPost_ret (v := .agg #[.string s, .slice o 0 c]) (by simp [results, Try.results87, go_sem]) rfl ⟨s, o, 0, c, rfl, by
          show Rep _ _ (leafT s) _
          unfold leafT
          simp only [Rep]; exact ⟨o, 0, c, rfl, RepS.nil _ _ _, Nat.zero_le _⟩, HRN.out.below HBF.out, grownBy_below HBF.out⟩
    | cons p ps =>
      have hsh := shp hexp
      have hse : s.data.toList = [] := Classical.byContradiction fun h => absurd (hge.2 h) (by simp)
      have hemp : s.toList.isEmpty = true := by rw [Lib.toList_data, hse]; rfl
      have hemp2 : (s.toList == []) = true := by rw [Lib.toList_data, hse]; rfl
      have hemp3 : (s.toList != []) = false := by simpa using hemp2
      obtain ⟨b, off, rfl, hAb, hc⟩ := hs.uncons
      have hlb := hA b hAb
      obtain ⟨i0, hi, hz0, hz1, hz2⟩ := info_parts infoTreeR
      have hlp : 0 < (p :: ps).length := by simp
      have hlpI : (0 : Int) < ((p :: ps).length : Int) := by omega
      have hll : (p :: ps).length ≤ 24000 := by have := Tree.length_le_szL (p :: ps); simp only [Tree.sz] at hsz; omega
      have HA := Lib.hid hA
      have HRC : Hid (∀ W, w.grownBy W (some rb) → RepC W A (p :: ps) b off) := fun W h => RepC.keep (Keeps.grown h (fun x hx e => (HA.out x hx).1 (by simpa using e))) hAb _ _ hc
      have HK := Lib.hid (l2Kids_any p.atom)
      have HAT := Lib.hid (fun s W => l1Atom_any s W)
      have HS1 : Hid (∀ W, w.grownBy W (some rb) → Strs W o1 n1 fr) := fun W h => h1.grown h (fun x hx e => (hx1 x hx).1 (by simpa using e))
      have HS2 : Hid (∀ W, w.grownBy W (some rb) → Strs W o2 n2 tt) := fun W h => h2.grown h (fun x hx e => (hx2 x hx).1 (by simpa using e))
      have HRN := Lib.hid hrn
      have HX1 := Lib.hid hx1
      have HX2 := Lib.hid hx2
      have hne : (p :: ps) ≠ [] := by simp
      have HCR : Hid (¬ (A rb ∧ rb < w.heap.size)) := fun h => (hA rb h.1).1 rfl
      have HAL : Hid (∀ x, af = some x → x.block < w.heap.size) := fun x hx => (hrn.2.2 x hx).2
      have HW3 : Hid (URow (((w.alloc (.cells #[.string s, .slice (some ⟨b, off, none⟩) (p :: ps).length c] 40)).alloc (.cells #[.string ⟨#[]⟩, .slice none 0 0] 40)).alloc (.cells #[] 40)) (w.heap.size + 1 + 1) (fun b => A b ∧ b < w.heap.size) 40 (.slice (some ⟨w.heap.size + 1 + 1, 0, none⟩) 0 0) []) := by
        refine ⟨[], ?_, trivial⟩
        have h := World.ownsRow_made ((w.alloc (.cells #[.string s, .slice (some ⟨b, off, none⟩) (p :: ps).length c] 40)).alloc (.cells #[.string ⟨#[]⟩, .slice none 0 0] 40)) (base := w.heap.size + 1 + 1) (e := 40) (size := 2) #[] 0 (by simp) (by simp [maxLen]) (by simp)
        simpa using h
      have HB3 : Hid (Below w.heap.size w (((w.alloc (.cells #[.string s, .slice (some ⟨b, off, none⟩) (p :: ps).length c] 40)).alloc (.cells #[.string ⟨#[]⟩, .slice none 0 0] 40)).alloc (.cells #[] 40))) := (((Below.refl _ _).alloc (Nat.le_refl _) _).alloc (by simp) _).alloc (by simp; omega) _
      have HC3 := Lib.hid (RepC.keep (Keeps.below HB3.out) hAb _ _ hc)
      clear hc hs h1 h2 hx1 hx2 hrn hA hr'
      have hMM : (p :: ps).length = ps.length + 1 := rfl
      have HMM := Lib.hid hMM
      clear hMM
      generalize hM : (p :: ps).length = M at hcap hlp hlpI hll HW3 HB3 HC3 HMM
      have HME : Hid (M = (p :: ps).length) := hM.symm
      clear hM
      go_enter Try.func87, Try.ntmps87
      go_wp2_with (at_builtin; refine wpList_append_trees rfl (.tmp 29) (.tmp 31) 38 rfl (w.heap.size + 1 + 1) (fun b => A b ∧ b < w.heap.size) 40 i0 _ 40 Try.underlying38 hi hz0 hz1 hz2 rfl (by decide) (.slice (some ⟨w.heap.size + 1 + 1, 0, none⟩) 0 0) rfl [] HW3.out b off M c rfl (p :: ps) HME.out HC3.out hne (fun x hx => ⟨.inl ⟨hx, (HA.out x hx).2⟩, by have := (HA.out x hx).2; simp; omega, by have := (HA.out x hx).2; simp [Value.ownBlock]; omega⟩) (by have := HME.out; simp only [List.length_nil]; omega) (by simp) ?_; intro g cap w2 HU hb2; simp only [List.length_nil, Nat.zero_add, List.nil_append] at HU; obtain ⟨fx, ps0, hx2, hbw2⟩ := pst_start HU hb2 HRN.out HCR.out HAL.out; have FX := Lib.hid fx; have PS0 := Lib.hid ps0; obtain ⟨ct0, ct1⟩ := box_cells ps0.t; obtain ⟨cu0, cu1⟩ := box_cells hx2; obtain ⟨op, np, cp, cq0, cq1, -⟩ := (HRC.out w2 (grownBy_below hbw2)).nth 0 (k := off) rfl rfl; obtain ⟨op', np', cp', cr0, cr1, -⟩ := (HRC.out _ ps0.gr).nth 0 (k := off) rfl rfl; clear HU fx ps0)
      refine (HK.out _).mono ?_
      rintro e w3 ⟨rfl, rfl⟩
      generalize hW5 : (w2.alloc (.cells #[.string ⟨#[]⟩, .slice (some ⟨g, 0, none⟩) M cap] 40)) = W5 at *
      clear hW5 cu0 cu1 cq0 cq1 hx2 hbw2 hb2 HC3 HB3 HW3 HRN
      generalize w2.heap.size = B9 at *
      have HIK : Hid (∀ (R : List (Option Addr × Nat × List ByteArray)) (i : Nat) (q : Tree), (p :: ps)[i]? = some q → q.isExpr = true → ∀ (fr' to' : List ByteArray) (o1' o2' : Option Addr) (n1' c1' n2' c2' : Nat) (L : List Tree) (m : Nat) (W : World), Hid (PSt w B9 g M cap rb #[.string s, .slice (some ⟨b, off, none⟩) M c] (fun b => A b ∧ b < w.heap.size) af lf cf F R W L m) → Strs W o1' n1' fr' → Strs W o2' n2' to' →
          (∀ x, o1' = some x → x.block ≠ rb ∧ x.block < W.heap.size) → (∀ x, o2' = some x → x.block ≠ rb ∧ x.block < W.heap.size) → fr'.length = to'.length → fr'.length ≤ fr.length + 2 → (∀ x ∈ fr', nameB x.data.toList = true) → (q.ren F fr' to' m).2 ≤ 100000 →
          ∀ (oq : Option Addr) (nq cq : Nat), Rep w A q (.agg #[.string q.atom, .slice oq nq cq]) → Calls Try.prog 87 #[.agg #[.string q.atom, .slice oq nq cq], .slice o1' n1' c1', .slice o2' n2' c2', .pointer (some ⟨rb, 0, none⟩)] W fun e w' => ∃ a o l c', e = .returned (.agg #[.string a, .slice o l c']) ∧
            Hid (Rep w' (fun z => ((A z ∧ z < w.heap.size) ∨ w.heap.size + 1 + 1 ≤ z) ∧ z < w'.heap.size ∧ z ≠ g) (q.ren F fr' to' m).1 (.agg #[.string a, .slice o l c'])) ∧ Hid (PSt w B9 g M cap rb #[.string s, .slice (some ⟨b, off, none⟩) M c] (fun b => A b ∧ b < w.heap.size) af lf cf F R w' L (q.ren F fr' to' m).2)) := fun R i q hq he fr' to' o1' o2' n1' c1' n2' c2' L m W P hs1 hs2 hb1 hb2 hll' hlen' hnam' hfin' oq nq cq hrq => by
        have s1 := Tree.part_sz (t := .node s (p :: ps)) (List.mem_of_getElem? hq)
        have t1 := text_part_le (a := s) (List.mem_of_getElem? hq)
        have hg9 := (Array.getElem?_eq_some_iff.1 P.out.o).1
        have hf9 := FX.out.g9
        have hfg := FX.out.gl
        refine (ih q A (.agg #[.string q.atom, .slice oq nq cq]) fr' to' o1' o2' n1' c1' n2' c2' m W (by omega) (Rep.keep (Keeps.grown P.out.gr (fun z hz e => (HA.out z hz).1 (by simpa using e))) _ _ hrq) (fun z hz => ⟨(HA.out z hz).1, Nat.lt_of_lt_of_le (HA.out z hz).2 P.out.gr.size⟩) hs1 hs2
          hb1 hb2 P.out.rn hll' (by omega) (by omega) (by omega) (good4 hgood q (List.mem_of_getElem? hq)) he hnam' hfin').mono ?_
        rintro e w' ⟨a, o, l, c', rfl, hr, hrn, hgr⟩
        refine ⟨a, o, l, c', rfl, Rep.weak (fun z hz => ?_) _ _ (Rep.bound _ _ hr), P.out.call FX.out hgr hrn⟩
        rcases hz with ⟨hz | hz, hz2⟩
        · have := (HA.out z hz).2
          exact ⟨.inl ⟨hz, this⟩, hz2, by omega⟩
        · exact ⟨.inr (by omega), hz2, by omega⟩
      have HCL : Hid (∀ (W : World), w.grownBy W (some rb) → ∀ (z k : Nat) (v : Value), A z → w.cell? ⟨z, k, none⟩ = some v → W.cell? ⟨z, k, none⟩ = some v) := fun W h z k v hz hc => h.cell hc (by have := (HA.out z hz).1; simpa using this)
      have HPR : Hid (∀ (i : Nat) (q : Tree), (p :: ps)[i]? = some q → ∃ oq nq cq, w.cell? ⟨b, off + i * 2, none⟩ = some (.string q.atom) ∧ w.cell? ⟨b, off + i * 2 + 1, none⟩ = some (.slice oq nq cq) ∧ Rep w A q (.agg #[.string q.atom, .slice oq nq cq])) := fun i q hq => (HRC.out w (grownBy_refl _ _)).nth i hq rfl
      cases hsh with
      | op _ _ _ hk hl hnl hnf hq =>
        have hk2 : kids2 p.atom.data.toList = (1, ps.length + 1) := by
          obtain ⟨k, e1, e2, -, -, -⟩ := expr_cases hexp
          rw [hk] at e1
          rw [e2, ← e1]
        rw [hk2]
        have hnl1 : (p.atom.toList == [108, 101, 116]) = false := by rw [Lib.toList_data]; simpa using hnl
        have hnf1 : (p.atom.toList == [102, 117, 110]) = false := by rw [Lib.toList_data]; simpa using hnf
        have HRE : Hid ((Tree.node s (p :: ps)).ren F fr tt n = (.node ⟨#[]⟩ (p :: (Tree.renL F ps fr tt n).1), (Tree.renL F ps fr tt n).2)) := ren_op F s p ps fr tt n hl hnl
        have hfin' : (Tree.renL F ps fr tt n).2 ≤ 100000 := by have := hfin; rw [HRE.out] at this; exact this
        have HKE : Hid (∀ q ∈ ps, q.isExpr = true) := hq
        have HPK : Hid (∀ (m : Nat) (q : Tree), ps[m]? = some q → (p :: ps)[m + 1]? = some q) := fun m q h => by simpa using h
        have HMJ := HMM
        have HQ1 : Hid (∀ (W : World) (L : List Tree) (k : Nat), Hid (PSt w B9 g M cap rb #[.string s, .slice (some ⟨b, off, none⟩) M c] (fun b => A b ∧ b < w.heap.size) af lf cf F [] W L k) → Strs W o1 n1 fr ∧ Strs W o2 n2 tt ∧ (∀ x, o1 = some x → x.block ≠ rb ∧ x.block < W.heap.size) ∧ (∀ x, o2 = some x → x.block ≠ rb ∧ x.block < W.heap.size)) := fun W L k P =>
          ⟨HS1.out W P.out.gr, HS2.out W P.out.gr, fun z hz => ⟨(HX1.out z hz).1, Nat.lt_of_lt_of_le (HX1.out z hz).2 P.out.gr.size⟩, fun z hz => ⟨(HX2.out z hz).1, Nat.lt_of_lt_of_le (HX2.out z hz).2 P.out.gr.size⟩⟩
        clear hk hl hnl hnf hq hk2
        have hMI : (M : Int) = (ps.length : Int) + 1 := by have := HMM.out; omega
        have HP0 : Hid (PSt w B9 g M cap rb #[.string s, .slice (some ⟨b, off, none⟩) M c] (fun b => A b ∧ b < w.heap.size) af lf cf F [] W5 (rowAt F [p] ps fr tt n 0) (cntAt F ps fr tt n 0)) := by
          show PSt _ _ _ _ _ _ _ _ _ _ _ _ _ _ _ _
          rw [(rowAt_zero F [p] ps fr tt n).1, (rowAt_zero F [p] ps fr tt n).2]
          exact PS0.out
        go_wp2
        go_loopw [15] (fun iv wr => ∃ m : Nat, m ≤ ps.length ∧ iv = .int .i64 ((m : Int) + 1) ∧ Hid (PSt w B9 g M cap rb #[.string s, .slice (some ⟨b, off, none⟩) M c] (fun b => A b ∧ b < w.heap.size) af lf cf F [] wr (rowAt F [p] ps fr tt n m) (cntAt F ps fr tt n m))) (fun iv _ => M - (intOf iv).toNat)
        case atStart => exact ⟨0, Nat.zero_le _, by go_num, HP0⟩
        case round =>
          obtain ⟨m, hm, rfl, HP⟩ := hrel
          by_cases hlt : m < ps.length
          · obtain ⟨q, hq⟩ : ∃ q, ps[m]? = some q := ⟨ps[m], by simp [hlt]⟩
            have hqp : (p :: ps)[m + 1]? = some q := HPK.out m q hq
            obtain ⟨oq, nq, cq, qx, qy, rq⟩ := HPR.out (m + 1) q hqp
            have HPQ : Hid (∀ W, w.grownBy W (some rb) → W.cell? ⟨b, off + (m + 1) * 2, none⟩ = some (.string q.atom) ∧ W.cell? ⟨b, off + (m + 1) * 2 + 1, none⟩ = some (.slice oq nq cq)) := fun W h => ⟨HCL.out W h _ _ _ hAb qx, HCL.out W h _ _ _ hAb qy⟩
            have hqe : q.isExpr = true := HKE.out q (List.mem_of_getElem? hq)
            obtain ⟨hn1', hn2'⟩ := rowAt_next (F := F) (P0 := [p]) (fr := fr) (tt := tt) (n := n) hq
            have hfq : (q.ren F fr tt (cntAt F ps fr tt n m)).2 ≤ 100000 := by rw [← hn2']; exact Nat.le_trans (cntAt_le F fr tt ps HKE.out n (m + 1)) hfin'
            have hrl2 := rowAt_len F [p] ps fr tt n m (by omega)
            have HIQ : Hid (∀ W, Hid (PSt w B9 g M cap rb #[.string s, .slice (some ⟨b, off, none⟩) M c] (fun b => A b ∧ b < w.heap.size) af lf cf F [] W (rowAt F [p] ps fr tt n m) (cntAt F ps fr tt n m)) → Calls Try.prog 87 #[.agg #[.string q.atom, .slice oq nq cq], .slice o1 n1 c1, .slice o2 n2 c2, .pointer (some ⟨rb, 0, none⟩)] W fun e w' => ∃ a o l c', e = .returned (.agg #[.string a, .slice o l c']) ∧
                Hid (Rep w' (fun z => ((A z ∧ z < w.heap.size) ∨ w.heap.size + 1 + 1 ≤ z) ∧ z < w'.heap.size ∧ z ≠ g) (q.ren F fr tt (cntAt F ps fr tt n m)).1 (.agg #[.string a, .slice o l c'])) ∧ Hid (PSt w B9 g M cap rb #[.string s, .slice (some ⟨b, off, none⟩) M c] (fun b => A b ∧ b < w.heap.size) af lf cf F [] w' (rowAt F [p] ps fr tt n m) (cntAt F ps fr tt n (m + 1)))) := fun W P => by
              rw [hn2']
              exact HIK.out [] (m + 1) q hqp hqe fr tt o1 o2 n1 c1 n2 c2 _ _ W P ((fun W P => (HQ1.out W _ _ P).1) W P) ((fun W P => (HQ1.out W _ _ P).2.1) W P) ((fun W P => (HQ1.out W _ _ P).2.2.1) W P) ((fun W P => (HQ1.out W _ _ P).2.2.2) W P) hft (by omega) hnam hfq oq nq cq rq
            have HSE : Hid (∀ W, Hid (PSt w B9 g M cap rb #[.string s, .slice (some ⟨b, off, none⟩) M c] (fun b => A b ∧ b < w.heap.size) af lf cf F [] W (rowAt F [p] ps fr tt n m) (cntAt F ps fr tt n (m + 1))) → ∃ x y, W.cell? ⟨g, (m + 1) * 2, none⟩ = some x ∧ W.cell? ⟨g, (m + 1) * 2 + 1, none⟩ = some y ∧ W.frozen? ⟨g, (m + 1) * 2, none⟩ = false ∧ W.frozen? ⟨g, (m + 1) * 2 + 1, none⟩ = false) := fun W P => by
              obtain ⟨x, y, e0, e1, e2, e3, -, -⟩ := P.out.at' (i := 1 + m) (k := (m + 1) * 2) (by rw [hrl2]; simp; omega) (by omega)
              exact ⟨x, y, e0, e1, e2, e3⟩
            have HST : Hid (∀ (W : World) (a : ByteArray) (o : Option Addr) (l c' : Nat), Hid (Rep W (fun z => ((A z ∧ z < w.heap.size) ∨ w.heap.size + 1 + 1 ≤ z) ∧ z < W.heap.size ∧ z ≠ g) (q.ren F fr tt (cntAt F ps fr tt n m)).1 (.agg #[.string a, .slice o l c'])) →
                Hid (PSt w B9 g M cap rb #[.string s, .slice (some ⟨b, off, none⟩) M c] (fun b => A b ∧ b < w.heap.size) af lf cf F [] W (rowAt F [p] ps fr tt n m) (cntAt F ps fr tt n (m + 1))) → Hid (PSt w B9 g M cap rb #[.string s, .slice (some ⟨b, off, none⟩) M c] (fun b => A b ∧ b < w.heap.size) af lf cf F [] ((W.setCell ⟨g, (m + 1) * 2, none⟩ (.string a)).setCell ⟨g, (m + 1) * 2 + 1, none⟩ (.slice o l c')) (rowAt F [p] ps fr tt n (m + 1)) (cntAt F ps fr tt n (m + 1)))) := fun W a o l c' hr P => by
              have h := PSt.set' FX.out P.out (i := 1 + m) (k := (m + 1) * 2) (by rw [hrl2]; simp; omega) (by omega) hr.out (fun z hz => hz)
              have e : (rowAt F [p] ps fr tt n m).set (1 + m) (q.ren F fr tt (cntAt F ps fr tt n m)).1 = rowAt F [p] ps fr tt n (m + 1) := hn1'
              rw [e] at h
              exact h
            have HPD : Hid (PSt w B9 g M cap rb #[.string s, .slice (some ⟨b, off, none⟩) M c] (fun b => A b ∧ b < w.heap.size) af lf cf F [] wr.drew (rowAt F [p] ps fr tt n m) (cntAt F ps fr tt n m)) := HP.out.below FX.out (Below.refl _ _).drew
            have HIQD := Lib.hid (HIQ.out _ HPD)
            have HMK : Hid (M = ps.length + 1) := HMJ
            have hmM : m + 1 < M := by have := HMK.out; omega
            have hmI : (m : Int) + 1 < (M : Int) := by omega
            have hm0 : (0 : Int) ≤ (m : Int) + 1 := by omega
            obtain ⟨wt0, wt1⟩ := box_cells HP.out.t
            have HSS : Hid (∀ W L k, Hid (PSt w B9 g M cap rb #[.string s, .slice (some ⟨b, off, none⟩) M c] (fun b => A b ∧ b < w.heap.size) af lf cf F [] W L k) → W.cell? ⟨B9, 0, none⟩ = some (.string ⟨#[]⟩) ∧ W.cell? ⟨B9, 1, none⟩ = some (.slice (some ⟨g, 0, none⟩) M cap) ∧ W.cell? ⟨w.heap.size, 0, none⟩ = some (.string s) ∧ W.cell? ⟨w.heap.size, 1, none⟩ = some (.slice (some ⟨b, off, none⟩) M c) ∧ W.cell? ⟨b, off + (m + 1) * 2, none⟩ = some (.string q.atom) ∧ W.cell? ⟨b, off + (m + 1) * 2 + 1, none⟩ = some (.slice oq nq cq)) := fun W L k P =>
              ⟨(box_cells P.out.o).1, (box_cells P.out.o).2, (box_cells P.out.t).1, (box_cells P.out.t).2, (HPQ.out W P.out.gr).1, (HPQ.out W P.out.gr).2⟩
            clear hq hqp qx qy rq hqe hn1' hn2' hfq hrl2
            generalize (q.ren F fr tt (cntAt F ps fr tt n m)).1 = qr at *
            generalize q.atom = qa at *
            go_wp2_with fail
            go_region_held3 (fun W => W.cell? ⟨B9, 0, none⟩ = some (.string ⟨#[]⟩) ∧ W.cell? ⟨B9, 1, none⟩ = some (.slice (some ⟨g, 0, none⟩) M cap) ∧ W.cell? ⟨w.heap.size, 0, none⟩ = some (.string s) ∧ W.cell? ⟨w.heap.size, 1, none⟩ = some (.slice (some ⟨b, off, none⟩) M c) ∧ W.cell? ⟨b, off + (m + 1) * 2, none⟩ = some (.string qa) ∧ W.cell? ⟨b, off + (m + 1) * 2 + 1, none⟩ = some (.slice oq nq cq))
              (first | with_reducible exact HSS.out _ _ _ P9 | with_reducible exact HSS.out _ _ _ P8 | with_reducible exact HSS.out _ _ _ HPD)
              (first
                | (go_at_call 87; with_reducible refine HIQD.out.mono ?_; rintro e w7 ⟨ra, ro, rl, rc, rfl, hr7, P8⟩; obtain ⟨xx, yy, e0, e1, e2, e3⟩ := HSE.out _ P8; have P9 := HST.out _ _ _ _ _ hr7 P8))
            go_wp2
            go_roundw
            case rel => exact ⟨m + 1, by omega, by go_num, P9⟩
            case measure => simp [intOf]; omega
          · obtain ⟨en1, en2⟩ := rowAt_end F [p] ps fr tt n m (by omega)
            rw [en1, en2] at HP
            obtain ⟨wo0, wo1⟩ := box_cells HP.out.o
            obtain ⟨r0, r1⟩ := box_cells HP.out.r
            have fr0 := Lib.frozen_of_heap HP.out.r 0
            have fr1 := Lib.frozen_of_heap HP.out.r 1
            have HEND := Lib.hid (pst_end FX.out HP.out (fun z hz => hz.2) (.string ⟨#[]⟩) (.slice (some ⟨g, 0, none⟩) M cap))
            clear en1 en2
            go_wp2
            exact bodyPost_ret (v := .agg #[.string ⟨#[]⟩, .slice (some ⟨g, 0, none⟩) M cap]) (by simp [results, Try.results87, go_sem, r0, r1]) rfl ⟨⟨#[]⟩, some ⟨g, 0, none⟩, M, cap, rfl, by rw [HRE.out]; exact Rep.weak (fun z hz => hz.imp (fun h => h.1) id) _ _ HEND.out.1, by rw [HRE.out]; exact HEND.out.2.1, HEND.out.2.2⟩
      | fn _ _ y x u v b' hp hy hx hxy hu hv hb' =>
        have hnl1 : (p.atom.toList == [108, 101, 116]) = false := by rw [Lib.toList_data, hp]; rfl
        have hnf1 : (p.atom.toList == [102, 117, 110]) = true := by rw [Lib.toList_data]; simpa using hp
        have hk2 : kids2 p.atom.data.toList = (5, 6) := by rw [hp]; rfl
        rw [hk2]
        obtain rfl : M = 6 := HME.out
        have HRE : Hid ((Tree.node s [p, y, x, u, v, b']).ren F fr tt n = (.node ⟨#[]⟩ ([p, leafT (xn (freshK F n)), leafT (xn (freshK F (freshK F n + 1))), u, v] ++ (Tree.renL F [b'] (fr ++ [y.atom, x.atom]) (tt ++ [xn (freshK F n), xn (freshK F (freshK F n + 1))]) (freshK F (freshK F n + 1) + 1)).1), (Tree.renL F [b'] (fr ++ [y.atom, x.atom]) (tt ++ [xn (freshK F n), xn (freshK F (freshK F n + 1))]) (freshK F (freshK F n + 1) + 1)).2)) := by
          show _ = _
          rw [ren_fun]; simp [Tree.renL]
        have hfin' : (Tree.renL F [b'] (fr ++ [y.atom, x.atom]) (tt ++ [xn (freshK F n), xn (freshK F (freshK F n + 1))]) (freshK F (freshK F n + 1) + 1)).2 ≤ 100000 := by have := hfin; rw [HRE.out] at this; exact this
        have hge0 : freshK F (freshK F n + 1) + 1 ≤ 100000 := by
          have := renL_ge F (fr ++ [y.atom, x.atom]) (tt ++ [xn (freshK F n), xn (freshK F (freshK F n + 1))]) [b'] (fun q hq n => ren_ge F _ q _ _ n (Nat.le_refl _) (by simp at hq; subst hq; exact hb')) (freshK F (freshK F n + 1) + 1)
          omega
        have hge1 := freshK_ge F (freshK F n + 1)
        have HKE : Hid (∀ q ∈ [b'], q.isExpr = true) := fun q hq => by simp at hq; subst hq; exact hb'
        have HPK : Hid (∀ (m : Nat) (q : Tree), [b'][m]? = some q → [p, y, x, u, v, b'][m + 5]? = some q) := fun m q h => by
          cases m with
          | zero => simpa using h
          | succ m => simp at h
        have HMJ : Hid (6 = [b'].length + 5) := rfl
        have HNA : Hid (∀ z ∈ fr ++ [y.atom, x.atom], nameB z.data.toList = true) := name_snoc2 hnam hy hx
        have HFR := Lib.hid (l2Fresh_any W5 rb n lf cf af F PS0.out.rn (by omega) hF)
        have h61 : 1 < [p, y, x, u, v, b'].length := by simp
        have HNL : Hid ((fr ++ [y.atom, x.atom]).length = (tt ++ [xn (freshK F n), xn (freshK F (freshK F n + 1))]).length) := by show _ = _; simp [hft]
        clear hk2
        go_wp2_with fail
        refine HFR.out.mono ?_
        rintro e w3 ⟨rfl, hrn3, hg3⟩
        have P3 := Lib.hid (PS0.out.call FX.out hg3 hrn3)
        have HFR2 := Lib.hid (l2Fresh_any w3 rb (freshK F n + 1) lf cf af F P3.out.rn (by omega) hF)
        go_wp2_with fail
        refine HFR2.out.mono ?_
        rintro e w9 ⟨rfl, hrn9, hg9⟩
        have P9 := Lib.hid (P3.out.call FX.out hg9 hrn9)
        clear hrn3 hg3 hrn9 hg9 HFR HFR2
        generalize hNM : xn (freshK F n) = nm at *
        have HNM : Hid (xn (freshK F n) = nm) := hNM
        generalize hNX : xn (freshK F (freshK F n + 1)) = nx at *
        have HNX : Hid (xn (freshK F (freshK F n + 1)) = nx) := hNX
        clear hNM hNX
        have h62 : 2 < [p, leafT nm, x, u, v, b'].length := by simp
        have hI1 : (1 : Int) < 6 := by omega
        have hI2 : (2 : Int) < 6 := by omega
        have HP4a : Hid (∀ W, Stp w9.drew W → Hid (PSt w B9 g 6 cap rb #[.string s, .slice (some ⟨b, off, none⟩) 6 c] (fun b => A b ∧ b < w.heap.size) af lf cf F [] W [p, y, x, u, v, b'] (freshK F (freshK F n + 1) + 1))) := fun W h => (P9.out.below FX.out (Below.refl _ _).drew).below FX.out h
        have HP5a : Hid (∀ W, Hid (PSt w B9 g 6 cap rb #[.string s, .slice (some ⟨b, off, none⟩) 6 c] (fun b => A b ∧ b < w.heap.size) af lf cf F [] W [p, y, x, u, v, b'] (freshK F (freshK F n + 1) + 1)) → Hid (PSt w B9 g 6 cap rb #[.string s, .slice (some ⟨b, off, none⟩) 6 c] (fun b => A b ∧ b < w.heap.size) af lf cf F [] ((W.setCell ⟨g, 2, none⟩ (.string nm)).setCell ⟨g, 3, none⟩ (.slice none 0 0)) [p, leafT nm, x, u, v, b'] (freshK F (freshK F n + 1) + 1))) := fun W h => PSt.set FX.out h.out h61 (Rep.leaf W (fun _ => False) nm) (fun _ h => h.elim)
        have HE4a : Hid (∀ W, Hid (PSt w B9 g 6 cap rb #[.string s, .slice (some ⟨b, off, none⟩) 6 c] (fun b => A b ∧ b < w.heap.size) af lf cf F [] W [p, y, x, u, v, b'] (freshK F (freshK F n + 1) + 1)) → ∃ x y, W.cell? ⟨g, 2, none⟩ = some x ∧ W.cell? ⟨g, 3, none⟩ = some y ∧ W.frozen? ⟨g, 2, none⟩ = false ∧ W.frozen? ⟨g, 3, none⟩ = false) := fun W h => by
          obtain ⟨x, y, e0, e1, e2, e3, -, -⟩ := h.out.at h61
          exact ⟨x, y, e0, e1, e2, e3⟩
        have PDa : Hid (PSt w B9 g 6 cap rb #[.string s, .slice (some ⟨b, off, none⟩) 6 c] (fun b => A b ∧ b < w.heap.size) af lf cf F [] w9.drew [p, y, x, u, v, b'] (freshK F (freshK F n + 1) + 1)) := P9.out.below FX.out (Below.refl _ _).drew
        go_wp2_with fail
        go_region_held3 (fun W => W.cell? ⟨B9, 0, none⟩ = some (.string ⟨#[]⟩) ∧ W.cell? ⟨B9, 1, none⟩ = some (.slice (some ⟨g, 0, none⟩) 6 cap))
          (first | with_reducible exact box_cells P5a.out.o | with_reducible exact box_cells P4a.out.o | with_reducible exact box_cells PDa.out.o)
          (first
            | (go_at_call 105; with_reducible refine (HAT.out nm _).mono ?_; rintro e w4 ⟨rfl, hst4⟩; have P4a := HP4a.out _ hst4; obtain ⟨xx, yy, e0, e1, e2, e3⟩ := HE4a.out _ P4a; have P5a := HP5a.out _ P4a))
        generalize hWn : ((w4.setCell ⟨g, 2, none⟩ (.string nm)).setCell ⟨g, 3, none⟩ (.slice none 0 0)) = w11 at *
        clear hWn e0 e1 e2 e3 P4a hst4 HP4a HP5a HE4a xx yy PDa
        have HP4b : Hid (∀ W, Stp w11.drew W → Hid (PSt w B9 g 6 cap rb #[.string s, .slice (some ⟨b, off, none⟩) 6 c] (fun b => A b ∧ b < w.heap.size) af lf cf F [] W [p, leafT nm, x, u, v, b'] (freshK F (freshK F n + 1) + 1))) := fun W h => (P5a.out.below FX.out (Below.refl _ _).drew).below FX.out h
        have HP5b : Hid (∀ W, Hid (PSt w B9 g 6 cap rb #[.string s, .slice (some ⟨b, off, none⟩) 6 c] (fun b => A b ∧ b < w.heap.size) af lf cf F [] W [p, leafT nm, x, u, v, b'] (freshK F (freshK F n + 1) + 1)) → Hid (PSt w B9 g 6 cap rb #[.string s, .slice (some ⟨b, off, none⟩) 6 c] (fun b => A b ∧ b < w.heap.size) af lf cf F [] ((W.setCell ⟨g, 4, none⟩ (.string nx)).setCell ⟨g, 5, none⟩ (.slice none 0 0)) [p, leafT nm, leafT nx, u, v, b'] (freshK F (freshK F n + 1) + 1))) := fun W h => PSt.set FX.out h.out h62 (Rep.leaf W (fun _ => False) nx) (fun _ h => h.elim)
        have HE4b : Hid (∀ W, Hid (PSt w B9 g 6 cap rb #[.string s, .slice (some ⟨b, off, none⟩) 6 c] (fun b => A b ∧ b < w.heap.size) af lf cf F [] W [p, leafT nm, x, u, v, b'] (freshK F (freshK F n + 1) + 1)) → ∃ x y, W.cell? ⟨g, 4, none⟩ = some x ∧ W.cell? ⟨g, 5, none⟩ = some y ∧ W.frozen? ⟨g, 4, none⟩ = false ∧ W.frozen? ⟨g, 5, none⟩ = false) := fun W h => by
          obtain ⟨x, y, e0, e1, e2, e3, -, -⟩ := h.out.at h62
          exact ⟨x, y, e0, e1, e2, e3⟩
        have PDb : Hid (PSt w B9 g 6 cap rb #[.string s, .slice (some ⟨b, off, none⟩) 6 c] (fun b => A b ∧ b < w.heap.size) af lf cf F [] w11.drew [p, leafT nm, x, u, v, b'] (freshK F (freshK F n + 1) + 1)) := P5a.out.below FX.out (Below.refl _ _).drew
        go_wp2_with fail
        go_region_held3 (fun W => W.cell? ⟨B9, 0, none⟩ = some (.string ⟨#[]⟩) ∧ W.cell? ⟨B9, 1, none⟩ = some (.slice (some ⟨g, 0, none⟩) 6 cap))
          (first | with_reducible exact box_cells P5b.out.o | with_reducible exact box_cells P4b.out.o | with_reducible exact box_cells PDb.out.o)
          (first
            | (go_at_call 105; with_reducible refine (HAT.out nx _).mono ?_; rintro e w4 ⟨rfl, hst4⟩; have P4b := HP4b.out _ hst4; obtain ⟨xx, yy, e0, e1, e2, e3⟩ := HE4b.out _ P4b; have P5b := HP5b.out _ P4b))
        generalize hWn : ((w4.setCell ⟨g, 4, none⟩ (.string nx)).setCell ⟨g, 5, none⟩ (.slice none 0 0)) = w12 at *
        clear hWn e0 e1 e2 e3 P4b hst4 HP4b HP5b HE4b xx yy PDb
        obtain ⟨oy, ny, cy, qy0, -, -⟩ := HPR.out 1 y rfl
        obtain ⟨ox, nx', cx, qx0, -, -⟩ := HPR.out 2 x rfl
        generalize hya : y.atom = ya at *
        generalize hxa : x.atom = xa at *
        have HYA := Lib.hid (And.intro hya hxa)
        clear hya hxa
        have HS18 : Hid (∀ W, Below w12.heap.size w12 W → W.cell? ⟨w.heap.size, 0, none⟩ = some (.string s) ∧ W.cell? ⟨w.heap.size, 1, none⟩ = some (.slice (some ⟨b, off, none⟩) 6 c) ∧ W.cell? ⟨b, off + 2, none⟩ = some (.string ya) ∧ W.cell? ⟨b, off + 4, none⟩ = some (.string xa)) := fun W h =>
          have P := P5b.out.below FX.out h
          ⟨(box_cells P.t).1, (box_cells P.t).2, HCL.out W P.gr _ _ _ hAb qy0, HCL.out W P.gr _ _ _ hAb qx0⟩
        have HE1 : Hid (SRow (w12.alloc (.cells #[] 9)).drew w12.heap.size (.slice (some ⟨w12.heap.size, 0, none⟩) 0 0) []) := SRow.empty w12 (Nat.le_refl _)
        have HE2 : Hid (SRow ((w12.alloc (.cells #[] 9)).alloc (.cells #[.string ya, .string xa] 9)).drew w12.heap.size (.slice (some ⟨w12.heap.size, 0, none⟩) 0 0) []) := (SRow.empty w12 (Nat.le_refl _)).alloc _
        have HE3 : Hid (SRow ((w12.alloc (.cells #[.string ya, .string xa] 9)).alloc (.cells #[] 9)).drew w12.heap.size (.slice (some ⟨w12.heap.size + 1, 0, none⟩) 0 0) []) := by
          have h := SRow.empty (w12.alloc (.cells #[.string ya, .string xa] 9)) (base := w12.heap.size) (by simp)
          rw [World.size_alloc] at h; exact h
        have HY1 : Hid (∀ W : World, Strs (W.alloc (.cells #[.string ya, .string xa] 9)) (some ⟨W.heap.size, 0, none⟩) 2 [ya, xa]) := fun W => strsTwo (heap_alloc_new W _)
        have HY2 : Hid (Strs ((w12.alloc (.cells #[] 9)).alloc (.cells #[.string ya, .string xa] 9)).drew (some ⟨w12.heap.size + 1, 0, none⟩) 2 [ya, xa]) := by
          have h := strsTwo (heap_alloc_new (w12.alloc (.cells #[] 9)) (.cells #[.string ya, .string xa] 9))
          rw [World.size_alloc] at h; exact h
        have HY3 : Hid (Strs ((w12.alloc (.cells #[.string ya, .string xa] 9)).alloc (.cells #[] 9)).drew (some ⟨w12.heap.size, 0, none⟩) 2 [ya, xa]) := by
          have h := (strsTwo (heap_alloc_new w12 (.cells #[.string ya, .string xa] 9))).keep ((Below.refl (w12.alloc (.cells #[.string ya, .string xa] 9)).heap.size _).alloc (Nat.le_refl _) (.cells #[] 9))
          exact h
        have HAL : Hid (∀ (W : World) (o : Obj), Below w12.heap.size w12 W → Below w12.heap.size w12 (W.alloc o)) := fun W o h => h.alloc h.size o
        have HTR : Hid (∀ (W W' : World), Below w12.heap.size w12 W → Below W.heap.size W W' → Below w12.heap.size w12 W') := fun W W' h h' => h.trans (h'.mono h.size)
        have HB0 : Hid (Below w12.heap.size w12 w12.drew) := (Below.refl _ _).drew
        have HB1 : Hid (Below w12.heap.size w12 (w12.alloc (.cells #[] 9)).drew) := (HAL.out _ _ (Below.refl _ _)).drew
        have HB2 : Hid (Below w12.heap.size w12 ((w12.alloc (.cells #[] 9)).alloc (.cells #[.string ya, .string xa] 9)).drew) := (HAL.out _ _ (HAL.out _ _ (Below.refl _ _))).drew
        have HB3a : Hid (Below w12.heap.size w12 (w12.alloc (.cells #[.string ya, .string xa] 9)).drew) := (HAL.out _ _ (Below.refl _ _)).drew
        have HB3 : Hid (Below w12.heap.size w12 ((w12.alloc (.cells #[.string ya, .string xa] 9)).alloc (.cells #[] 9)).drew) := (HAL.out _ _ (HAL.out _ _ (Below.refl _ _))).drew
        have HSF : Hid (∀ W, Below w12.heap.size w12 W → Strs W o1 n1 fr) := fun W h => HS1.out W (P5b.out.below FX.out h).gr
        have HST : Hid (∀ W, Below w12.heap.size w12 W → Strs W o2 n2 tt) := fun W h => HS2.out W (P5b.out.below FX.out h).gr
        have HFL : fr.length ≤ 1000000000 := by omega
        have HTL : tt.length ≤ 100000 := by omega
        have HFT := Lib.hid hft
        obtain ⟨N1, hN1⟩ : ∃ N1, fr.length + 2 = N1 := ⟨_, rfl⟩
        have HFN : Hid (fr.length + [ya, xa].length = N1) := hN1
        have HNL1 : N1 ≤ 1000000000 := by omega
        have HN1 := Lib.hid hN1
        clear hN1 hft
        go_wp2_with fail
        go_cut [1] from 113 to 127 (fun s1 wx => ∃ (o8 : Option Addr) (c8 : Nat), s1 = .slice o8 N1 c8 ∧ Hid (SRow wx w12.heap.size (.slice o8 N1 c8) (fr ++ [ya, xa])) ∧ Hid (Below w12.heap.size w12 wx))
        case first =>
          go_region_held3 (fun W => W.cell? ⟨w.heap.size, 0, none⟩ = some (.string s) ∧ W.cell? ⟨w.heap.size, 1, none⟩ = some (.slice (some ⟨b, off, none⟩) 6 c) ∧ W.cell? ⟨b, off + 2, none⟩ = some (.string ya) ∧ W.cell? ⟨b, off + 4, none⟩ = some (.string xa))
            (first | with_reducible exact HS18.out _ hbw8 | with_reducible exact HS18.out _ hbw7a | with_reducible exact HS18.out _ hbw7 | with_reducible exact HS18.out _ HB0.out | with_reducible exact HS18.out _ HB1.out | with_reducible exact HS18.out _ HB2.out | with_reducible exact HS18.out _ HB3a.out | with_reducible exact HS18.out _ HB3.out)
            (first
              | (refine step_append_fresh (by rfl) (.tmp 113) (.tmp 114) (by rfl) w12.heap.size w12.heap.size (by rfl) o1 n1 c1 (by rfl) fr ?_ ?_ HFL ?_ ?_; (with_reducible exact HE1.out); (with_reducible exact HSF.out _ HB1.out); (with_reducible exact HB1.out.size); intro o7 c7 w7 hrow7 hb7; have hbw7 := HTR.out _ _ HB1.out hb7; have hbw7a := HAL.out _ (.cells #[.string ya, .string xa] 9) hbw7; have hst7 := HY1.out w7)
              | (refine step_append_fresh (by rfl) (.tmp 113) (.tmp 114) (by rfl) w12.heap.size w12.heap.size (by rfl) o1 n1 c1 (by rfl) fr ?_ ?_ HFL ?_ ?_; (with_reducible exact HE2.out); (with_reducible exact HSF.out _ HB2.out); (with_reducible exact HB2.out.size); intro o7 c7 w7 hrow7 hb7; have hbw7 := HTR.out _ _ HB2.out hb7; have hst7 := HY2.out.keep hb7)
              | (refine step_append_fresh (by rfl) (.tmp 113) (.tmp 114) (by rfl) w12.heap.size (w12.heap.size + 1) (by rfl) o1 n1 c1 (by rfl) fr ?_ ?_ HFL ?_ ?_; (with_reducible exact HE3.out); (with_reducible exact HSF.out _ HB3.out); (with_reducible exact HB3.out.size); intro o7 c7 w7 hrow7 hb7; have hbw7 := HTR.out _ _ HB3.out hb7; have hst7 := HY3.out.keep hb7)
              | (refine step_append_strsN (by rfl) (.tmp 115) (.tmp 126) (by rfl) w12.heap.size (.slice o7 fr.length c7) (by rfl) fr (some ⟨w7.heap.size, 0, none⟩) 2 2 (by rfl) [ya, xa] N1 HFN.out ?_ ?_ HNL1 ?_ ?_; (with_reducible exact hrow7.alloc _); (with_reducible exact hst7); (with_reducible exact hbw7a.size); (intro o8 c8 w8 hrow8 hg8; have hbw8 := Below.grown hbw7a hg8 hbw7a.size (fun k hk => (hrow7.lt k hk).1)))
              | (refine step_append_strsN (by rfl) (.tmp 115) (.tmp 126) (by rfl) w12.heap.size (.slice o7 fr.length c7) (by rfl) fr (some ⟨w12.heap.size + 1, 0, none⟩) 2 2 (by rfl) [ya, xa] N1 HFN.out ?_ ?_ HNL1 ?_ ?_; (with_reducible exact hrow7); (with_reducible exact hst7); (with_reducible exact hbw7.size); (intro o8 c8 w8 hrow8 hg8; have hbw8 := Below.grown hbw7 hg8 hbw7.size (fun k hk => (hrow7.lt k hk).1)))
              | (refine step_append_strsN (by rfl) (.tmp 115) (.tmp 126) (by rfl) w12.heap.size (.slice o7 fr.length c7) (by rfl) fr (some ⟨w12.heap.size, 0, none⟩) 2 2 (by rfl) [ya, xa] N1 HFN.out ?_ ?_ HNL1 ?_ ?_; (with_reducible exact hrow7); (with_reducible exact hst7); (with_reducible exact hbw7.size); (intro o8 c8 w8 hrow8 hg8; have hbw8 := Below.grown hbw7 hg8 hbw7.size (fun k hk => (hrow7.lt k hk).1))))
          all_goals
            go_wp2_with fail
            go_meet
            case rel => exact ⟨o8, c8, rfl, Lib.hid hrow8, Lib.hid hbw8⟩
        case rest =>
          obtain ⟨o8, c8, rfl, HROW8, HBW8⟩ := hcut
          generalize hwc : wc = w8 at *
          clear hwc
          obtain ⟨NT, hNT⟩ : ∃ NT, ([] : List ByteArray).length + tt.length = NT := ⟨_, rfl⟩
          have hNT0 : NT ≤ 1000000000 := by simp at hNT; omega
          have HNT : Hid (([] : List ByteArray).length + tt.length = NT) := hNT
          obtain ⟨N2, hN2⟩ : ∃ N2, tt.length + 2 = N2 := ⟨_, rfl⟩
          have HN2 : Hid (tt.length + [nm, nx].length = N2) := hN2
          have hN20 : N2 ≤ 1000000000 := by omega
          have hbs8 := HBW8.out.size
          have P8 : Hid (PSt w B9 g 6 cap rb #[.string s, .slice (some ⟨b, off, none⟩) 6 c] (fun b => A b ∧ b < w.heap.size) af lf cf F [] w8 [p, leafT nm, leafT nx, u, v, b'] (freshK F (freshK F n + 1) + 1)) := P5b.out.below FX.out HBW8.out
          have HB8 : Hid (Below w8.heap.size w8 (w8.alloc (.cells #[] 9))) := (Below.refl _ _).alloc (Nat.le_refl _) _
          have HR8 : Hid (SRow (w8.alloc (.cells #[] 9)) w8.heap.size (.slice (some ⟨w8.heap.size, 0, none⟩) 0 0) []) := SRow.empty w8 (Nat.le_refl _)
          have HT8 : Hid (Strs (w8.alloc (.cells #[] 9)) o2 n2 tt) := HST.out _ (HAL.out _ _ HBW8.out)
          have HAL8 : Hid (∀ (W : World) (o : Obj), Below w8.heap.size w8 W → Below w8.heap.size w8 (W.alloc o)) := fun W o h => h.alloc h.size o
          clear hNT hN2 hbs8
          go_wp2_with (at_builtin; first
            | (refine wpList_append_strsN rfl (.tmp 128) (.tmp 129) rfl w8.heap.size (.slice (some ⟨w8.heap.size, 0, none⟩) 0 0) rfl [] o2 n2 c2 rfl tt NT HNT.out HR8.out HT8.out hNT0 HB8.out.size ?_; intro o13 c13 w13 hrow13 hg13; have hb13 := HB8.out.grown hg13 HB8.out.size (fun k hk => (HR8.out.lt k hk).1); have HRW13 := Lib.hid hrow13; clear hrow13 hg13; have hb13a := HAL8.out _ (.cells #[.string nm, .string nx] 9) hb13)
            | (refine wpList_append_strsN rfl (.tmp 130) (.tmp 133) rfl w8.heap.size (.slice o13 NT c13) rfl tt (some ⟨w13.heap.size, 0, none⟩) 2 2 rfl [nm, nx] N2 HN2.out (HRW13.out.alloc _) (strsTwo (heap_alloc_new w13 _)) hN20 hb13a.size ?_; intro o14 c14 w14 hrow14 hg14; have hb14 := hb13a.grown hg14 hb13a.size (fun k hk => (HRW13.out.lt k hk).1); have HRW14 := Lib.hid hrow14; clear hrow14 hg14))
          have hrow8 := HROW8.out.below hb14
          have P14a := P8.out.below FX.out hb14
          have hs12 := HBW8.out.size
          have hs14 := hb14.size
          have hg9 := (Array.getElem?_eq_some_iff.1 P5b.out.o).1
          have hf9 := FX.out.g9
          have hrl9 := FX.out.rl
          have hgw := P5b.out.gr.size
          obtain ⟨R, hR⟩ : ∃ R : List (Option Addr × Nat × List ByteArray), R = [(o14, N2, tt ++ [nm, nx]), (o8, N1, fr ++ [ya, xa])] := ⟨_, rfl⟩
          have P14 : Hid (PSt w B9 g 6 cap rb #[.string s, .slice (some ⟨b, off, none⟩) 6 c] (fun b => A b ∧ b < w.heap.size) af lf cf F R w14 [p, leafT nm, leafT nx, u, v, b'] (freshK F (freshK F n + 1) + 1)) := by
            subst hR
            exact (P14a.more hrow8.read (fun a ha => by have := hrow8.addr a ha; omega)).more HRW14.out.read (fun a ha => by have := HRW14.out.addr a ha; omega)
          have HQ1 : Hid (∀ (W : World) (L : List Tree) (k : Nat), Hid (PSt w B9 g 6 cap rb #[.string s, .slice (some ⟨b, off, none⟩) 6 c] (fun b => A b ∧ b < w.heap.size) af lf cf F R W L k) → Strs W o8 N1 (fr ++ [ya, xa]) ∧ Strs W o14 N2 (tt ++ [nm, nx]) ∧ (∀ x, o8 = some x → x.block ≠ rb ∧ x.block < W.heap.size) ∧ (∀ x, o14 = some x → x.block ≠ rb ∧ x.block < W.heap.size)) := fun W L k P => by
            subst hR
            have e1 := P.out.ex (o8, N1, fr ++ [ya, xa]) (List.mem_cons_of_mem _ (List.mem_singleton.2 rfl))
            have e2 := P.out.ex (o14, N2, tt ++ [nm, nx]) (List.mem_cons_self ..)
            exact ⟨e1.1, e2.1, fun x hx => ⟨(e1.2 x hx).1, (e1.2 x hx).2.2⟩, fun x hx => ⟨(e2.2 x hx).1, (e2.2 x hx).2.2⟩⟩
          have HNO : Hid ((fr ++ [ya, xa]).length ≤ fr.length + 2) := by show _ ≤ _; simp
          clear hR P14a hrow8 hs12 hs14 hg9 hf9 hgw hb14 hb13a hb13 HRW14 HRW13 HROW8 HBW8 P8 HNT HN2 HR8 HT8 HB8 HAL8
          have HMI0 : Hid (6 = [b'].length + 5) := HMJ
          generalize hK : [b'] = K at *
          have hMIa : K.length ≤ 1 := by have := HMI0.out; omega
          have hMIb : 1 ≤ K.length := by have := HMI0.out; omega
          have HKB := Lib.hid hK
          clear hK HMI0
          have HP0 : Hid (PSt w B9 g 6 cap rb #[.string s, .slice (some ⟨b, off, none⟩) 6 c] (fun b => A b ∧ b < w.heap.size) af lf cf F R w14 (rowAt F [p, leafT nm, leafT nx, u, v] K (fr ++ [ya, xa]) (tt ++ [nm, nx]) (freshK F (freshK F n + 1) + 1) 0) (cntAt F K (fr ++ [ya, xa]) (tt ++ [nm, nx]) (freshK F (freshK F n + 1) + 1) 0)) := by
            show PSt _ _ _ _ _ _ _ _ _ _ _ _ _ _ _ _
            rw [(rowAt_zero F [p, leafT nm, leafT nx, u, v] K (fr ++ [ya, xa]) (tt ++ [nm, nx]) (freshK F (freshK F n + 1) + 1)).1, (rowAt_zero F [p, leafT nm, leafT nx, u, v] K (fr ++ [ya, xa]) (tt ++ [nm, nx]) (freshK F (freshK F n + 1) + 1)).2]
            exact P14.out
          go_wp2
          go_loopw [15] (fun iv wr => ∃ m : Nat, m ≤ K.length ∧ iv = .int .i64 ((m : Int) + 5) ∧ Hid (PSt w B9 g 6 cap rb #[.string s, .slice (some ⟨b, off, none⟩) 6 c] (fun b => A b ∧ b < w.heap.size) af lf cf F R wr (rowAt F [p, leafT nm, leafT nx, u, v] K (fr ++ [ya, xa]) (tt ++ [nm, nx]) (freshK F (freshK F n + 1) + 1) m) (cntAt F K (fr ++ [ya, xa]) (tt ++ [nm, nx]) (freshK F (freshK F n + 1) + 1) m))) (fun iv _ => 6 - (intOf iv).toNat)
          case atStart => exact ⟨0, Nat.zero_le _, by go_num, HP0⟩
          case round =>
            obtain ⟨m, hm, rfl, HP⟩ := hrel
            by_cases hlt : m < K.length
            · obtain ⟨q, hq⟩ : ∃ q, K[m]? = some q := ⟨_, List.getElem?_eq_getElem hlt⟩
              have hqp : (p :: y :: x :: u :: v :: K)[m + 5]? = some q := HPK.out m q hq
              obtain ⟨oq, nq, cq, qx, qy, rq⟩ := HPR.out (m + 5) q hqp
              have HPQ : Hid (∀ W, w.grownBy W (some rb) → W.cell? ⟨b, off + (m + 5) * 2, none⟩ = some (.string q.atom) ∧ W.cell? ⟨b, off + (m + 5) * 2 + 1, none⟩ = some (.slice oq nq cq)) := fun W h => ⟨HCL.out W h _ _ _ hAb qx, HCL.out W h _ _ _ hAb qy⟩
              have hqe : q.isExpr = true := HKE.out q (List.mem_of_getElem? hq)
              obtain ⟨hn1', hn2'⟩ := rowAt_next (F := F) (P0 := [p, leafT nm, leafT nx, u, v]) (fr := (fr ++ [ya, xa])) (tt := (tt ++ [nm, nx])) (n := (freshK F (freshK F n + 1) + 1)) hq
              have hfq : (q.ren F (fr ++ [ya, xa]) (tt ++ [nm, nx]) (cntAt F K (fr ++ [ya, xa]) (tt ++ [nm, nx]) (freshK F (freshK F n + 1) + 1) m)).2 ≤ 100000 := by rw [← hn2']; exact Nat.le_trans (cntAt_le F (fr ++ [ya, xa]) (tt ++ [nm, nx]) K HKE.out (freshK F (freshK F n + 1) + 1) (m + 1)) hfin'
              have hrl2 := rowAt_len F [p, leafT nm, leafT nx, u, v] K (fr ++ [ya, xa]) (tt ++ [nm, nx]) (freshK F (freshK F n + 1) + 1) m (by omega)
              have HIQ : Hid (∀ W, Hid (PSt w B9 g 6 cap rb #[.string s, .slice (some ⟨b, off, none⟩) 6 c] (fun b => A b ∧ b < w.heap.size) af lf cf F R W (rowAt F [p, leafT nm, leafT nx, u, v] K (fr ++ [ya, xa]) (tt ++ [nm, nx]) (freshK F (freshK F n + 1) + 1) m) (cntAt F K (fr ++ [ya, xa]) (tt ++ [nm, nx]) (freshK F (freshK F n + 1) + 1) m)) → Calls Try.prog 87 #[.agg #[.string q.atom, .slice oq nq cq], .slice o8 N1 c8, .slice o14 N2 c14, .pointer (some ⟨rb, 0, none⟩)] W fun e w' => ∃ a o l c', e = .returned (.agg #[.string a, .slice o l c']) ∧
                  Hid (Rep w' (fun z => ((A z ∧ z < w.heap.size) ∨ w.heap.size + 1 + 1 ≤ z) ∧ z < w'.heap.size ∧ z ≠ g) (q.ren F (fr ++ [ya, xa]) (tt ++ [nm, nx]) (cntAt F K (fr ++ [ya, xa]) (tt ++ [nm, nx]) (freshK F (freshK F n + 1) + 1) m)).1 (.agg #[.string a, .slice o l c'])) ∧ Hid (PSt w B9 g 6 cap rb #[.string s, .slice (some ⟨b, off, none⟩) 6 c] (fun b => A b ∧ b < w.heap.size) af lf cf F R w' (rowAt F [p, leafT nm, leafT nx, u, v] K (fr ++ [ya, xa]) (tt ++ [nm, nx]) (freshK F (freshK F n + 1) + 1) m) (cntAt F K (fr ++ [ya, xa]) (tt ++ [nm, nx]) (freshK F (freshK F n + 1) + 1) (m + 1)))) := fun W P => by
                rw [hn2']
                exact HIK.out R (m + 5) q hqp hqe (fr ++ [ya, xa]) (tt ++ [nm, nx]) o8 o14 N1 c8 N2 c14 _ _ W P ((fun W P => (HQ1.out W _ _ P).1) W P) ((fun W P => (HQ1.out W _ _ P).2.1) W P) ((fun W P => (HQ1.out W _ _ P).2.2.1) W P) ((fun W P => (HQ1.out W _ _ P).2.2.2) W P) HNL.out HNO.out HNA.out hfq oq nq cq rq
              have HSE : Hid (∀ W, Hid (PSt w B9 g 6 cap rb #[.string s, .slice (some ⟨b, off, none⟩) 6 c] (fun b => A b ∧ b < w.heap.size) af lf cf F R W (rowAt F [p, leafT nm, leafT nx, u, v] K (fr ++ [ya, xa]) (tt ++ [nm, nx]) (freshK F (freshK F n + 1) + 1) m) (cntAt F K (fr ++ [ya, xa]) (tt ++ [nm, nx]) (freshK F (freshK F n + 1) + 1) (m + 1))) → ∃ x y, W.cell? ⟨g, (m + 5) * 2, none⟩ = some x ∧ W.cell? ⟨g, (m + 5) * 2 + 1, none⟩ = some y ∧ W.frozen? ⟨g, (m + 5) * 2, none⟩ = false ∧ W.frozen? ⟨g, (m + 5) * 2 + 1, none⟩ = false) := fun W P => by
                obtain ⟨x, y, e0, e1, e2, e3, -, -⟩ := P.out.at' (i := 5 + m) (k := (m + 5) * 2) (by rw [hrl2]; simp; omega) (by omega)
                exact ⟨x, y, e0, e1, e2, e3⟩
              have HST : Hid (∀ (W : World) (a : ByteArray) (o : Option Addr) (l c' : Nat), Hid (Rep W (fun z => ((A z ∧ z < w.heap.size) ∨ w.heap.size + 1 + 1 ≤ z) ∧ z < W.heap.size ∧ z ≠ g) (q.ren F (fr ++ [ya, xa]) (tt ++ [nm, nx]) (cntAt F K (fr ++ [ya, xa]) (tt ++ [nm, nx]) (freshK F (freshK F n + 1) + 1) m)).1 (.agg #[.string a, .slice o l c'])) →
                  Hid (PSt w B9 g 6 cap rb #[.string s, .slice (some ⟨b, off, none⟩) 6 c] (fun b => A b ∧ b < w.heap.size) af lf cf F R W (rowAt F [p, leafT nm, leafT nx, u, v] K (fr ++ [ya, xa]) (tt ++ [nm, nx]) (freshK F (freshK F n + 1) + 1) m) (cntAt F K (fr ++ [ya, xa]) (tt ++ [nm, nx]) (freshK F (freshK F n + 1) + 1) (m + 1))) → Hid (PSt w B9 g 6 cap rb #[.string s, .slice (some ⟨b, off, none⟩) 6 c] (fun b => A b ∧ b < w.heap.size) af lf cf F R ((W.setCell ⟨g, (m + 5) * 2, none⟩ (.string a)).setCell ⟨g, (m + 5) * 2 + 1, none⟩ (.slice o l c')) (rowAt F [p, leafT nm, leafT nx, u, v] K (fr ++ [ya, xa]) (tt ++ [nm, nx]) (freshK F (freshK F n + 1) + 1) (m + 1)) (cntAt F K (fr ++ [ya, xa]) (tt ++ [nm, nx]) (freshK F (freshK F n + 1) + 1) (m + 1)))) := fun W a o l c' hr P => by
                have h := PSt.set' FX.out P.out (i := 5 + m) (k := (m + 5) * 2) (by rw [hrl2]; simp; omega) (by omega) hr.out (fun z hz => hz)
                have e : (rowAt F [p, leafT nm, leafT nx, u, v] K (fr ++ [ya, xa]) (tt ++ [nm, nx]) (freshK F (freshK F n + 1) + 1) m).set (5 + m) (q.ren F (fr ++ [ya, xa]) (tt ++ [nm, nx]) (cntAt F K (fr ++ [ya, xa]) (tt ++ [nm, nx]) (freshK F (freshK F n + 1) + 1) m)).1 = rowAt F [p, leafT nm, leafT nx, u, v] K (fr ++ [ya, xa]) (tt ++ [nm, nx]) (freshK F (freshK F n + 1) + 1) (m + 1) := hn1'
                rw [e] at h
                exact h
              have HPD : Hid (PSt w B9 g 6 cap rb #[.string s, .slice (some ⟨b, off, none⟩) 6 c] (fun b => A b ∧ b < w.heap.size) af lf cf F R wr.drew (rowAt F [p, leafT nm, leafT nx, u, v] K (fr ++ [ya, xa]) (tt ++ [nm, nx]) (freshK F (freshK F n + 1) + 1) m) (cntAt F K (fr ++ [ya, xa]) (tt ++ [nm, nx]) (freshK F (freshK F n + 1) + 1) m)) := HP.out.below FX.out (Below.refl _ _).drew
              have HIQD := Lib.hid (HIQ.out _ HPD)
              have HMK : Hid (6 = K.length + 5) := HMJ
              have hmM : m + 5 < 6 := by have := HMK.out; omega
              have hmI : (m : Int) + 5 < (6 : Int) := by omega
              have hm0 : (0 : Int) ≤ (m : Int) + 5 := by omega
              have hmT : ((m : Int) + 5).toNat = m + 5 := by omega
              obtain ⟨wt0, wt1⟩ := box_cells HP.out.t
              have HSS : Hid (∀ W L k, Hid (PSt w B9 g 6 cap rb #[.string s, .slice (some ⟨b, off, none⟩) 6 c] (fun b => A b ∧ b < w.heap.size) af lf cf F R W L k) → W.cell? ⟨B9, 0, none⟩ = some (.string ⟨#[]⟩) ∧ W.cell? ⟨B9, 1, none⟩ = some (.slice (some ⟨g, 0, none⟩) 6 cap) ∧ W.cell? ⟨w.heap.size, 0, none⟩ = some (.string s) ∧ W.cell? ⟨w.heap.size, 1, none⟩ = some (.slice (some ⟨b, off, none⟩) 6 c) ∧ W.cell? ⟨b, off + (m + 5) * 2, none⟩ = some (.string q.atom) ∧ W.cell? ⟨b, off + (m + 5) * 2 + 1, none⟩ = some (.slice oq nq cq)) := fun W L k P =>
                ⟨(box_cells P.out.o).1, (box_cells P.out.o).2, (box_cells P.out.t).1, (box_cells P.out.t).2, (HPQ.out W P.out.gr).1, (HPQ.out W P.out.gr).2⟩
              clear hq hqp qx qy rq hqe hn1' hn2' hfq hrl2
              generalize (q.ren F (fr ++ [ya, xa]) (tt ++ [nm, nx]) (cntAt F K (fr ++ [ya, xa]) (tt ++ [nm, nx]) (freshK F (freshK F n + 1) + 1) m)).1 = qr at *
              generalize q.atom = qa at *
              go_wp2_with fail
              go_region_held3 (fun W => W.cell? ⟨B9, 0, none⟩ = some (.string ⟨#[]⟩) ∧ W.cell? ⟨B9, 1, none⟩ = some (.slice (some ⟨g, 0, none⟩) 6 cap) ∧ W.cell? ⟨w.heap.size, 0, none⟩ = some (.string s) ∧ W.cell? ⟨w.heap.size, 1, none⟩ = some (.slice (some ⟨b, off, none⟩) 6 c) ∧ W.cell? ⟨b, off + (m + 5) * 2, none⟩ = some (.string qa) ∧ W.cell? ⟨b, off + (m + 5) * 2 + 1, none⟩ = some (.slice oq nq cq))
                (first | with_reducible exact HSS.out _ _ _ P9 | with_reducible exact HSS.out _ _ _ P8 | with_reducible exact HSS.out _ _ _ HPD)
                (first
                  | (go_at_call 87; with_reducible refine HIQD.out.mono ?_; rintro e w7 ⟨ra, ro, rl, rc, rfl, hr7, P8⟩; obtain ⟨xx, yy, e0, e1, e2, e3⟩ := HSE.out _ P8; have P9 := HST.out _ _ _ _ _ hr7 P8))
              go_wp2
              go_roundw
              case rel => exact ⟨m + 1, by omega, by go_num, P9⟩
              case measure => simp [intOf]; omega
            · have hge6 : ¬ ((m : Int) + 5 < 6) := by omega
              obtain ⟨en1, en2⟩ := rowAt_end F [p, leafT nm, leafT nx, u, v] K (fr ++ [ya, xa]) (tt ++ [nm, nx]) (freshK F (freshK F n + 1) + 1) m (by omega)
              rw [en1, en2] at HP
              obtain ⟨wo0, wo1⟩ := box_cells HP.out.o
              obtain ⟨r0, r1⟩ := box_cells HP.out.r
              have fr0 := Lib.frozen_of_heap HP.out.r 0
              have fr1 := Lib.frozen_of_heap HP.out.r 1
              have HEND := Lib.hid (pst_end FX.out HP.out (fun z hz => hz.2) (.string ⟨#[]⟩) (.slice (some ⟨g, 0, none⟩) 6 cap))
              clear en1 en2
              go_wp2
              have hKB := HKB.out
              subst hKB
              exact bodyPost_ret (v := .agg #[.string ⟨#[]⟩, .slice (some ⟨g, 0, none⟩) 6 cap]) (by simp [results, Try.results87, go_sem, r0, r1]) rfl ⟨⟨#[]⟩, some ⟨g, 0, none⟩, 6, cap, rfl, by rw [HRE.out]; exact Rep.weak (fun z hz => hz.imp (fun h => h.1) id) _ _ HEND.out.1, by rw [HRE.out]; exact HEND.out.2.1, HEND.out.2.2⟩
      | lt _ _ x e' b' hp hx he' hb' =>
        have hlet : (p.atom.toList == [108, 101, 116]) = true := by rw [Lib.toList_data]; simpa using hp
        have HRE : Hid ((Tree.node s [p, x, e', b']).ren F fr tt n = (.node ⟨#[]⟩ [p, leafT (xn (freshK F n)), (e'.ren F fr tt (freshK F n + 1)).1, (b'.ren F (fr ++ [x.atom]) (tt ++ [xn (freshK F n)]) (e'.ren F fr tt (freshK F n + 1)).2).1],
            (b'.ren F (fr ++ [x.atom]) (tt ++ [xn (freshK F n)]) (e'.ren F fr tt (freshK F n + 1)).2).2)) := ren_let F s p x e' b' fr tt n hp
        have g1 := ren_ge F _ e' fr tt (freshK F n + 1) (Nat.le_refl _) he'
        have g2 := ren_ge F _ b' (fr ++ [x.atom]) (tt ++ [xn (freshK F n)]) (e'.ren F fr tt (freshK F n + 1)).2 (Nat.le_refl _) hb'
        have hfin' : (b'.ren F (fr ++ [x.atom]) (tt ++ [xn (freshK F n)]) (e'.ren F fr tt (freshK F n + 1)).2).2 ≤ 100000 := by have := hfin; rw [HRE.out] at this; exact this
        have HFR := Lib.hid (l2Fresh_any W5 rb n lf cf af F PS0.out.rn (by omega) hF)
        obtain rfl : M = 4 := HME.out
        go_wp2_with fail
        refine HFR.out.mono ?_
        rintro e w3 ⟨rfl, hrn3, hg3⟩
        have P3 : Hid (PSt w B9 g 4 cap rb #[.string s, .slice (some ⟨b, off, none⟩) 4 c] (fun b => A b ∧ b < w.heap.size) af lf cf F [] w3.drew [p, x, e', b'] (freshK F n + 1)) := (PS0.out.call FX.out hg3 hrn3).below FX.out (Below.refl _ _).drew
        clear hrn3 hg3
        generalize hNM : xn (freshK F n) = nm at *
        have HNM : Hid (xn (freshK F n) = nm) := hNM
        clear hNM
        have h14 : 1 < [p, x, e', b'].length := by simp
        have HP4 : Hid (∀ W, Stp w3.drew W → Hid (PSt w B9 g 4 cap rb #[.string s, .slice (some ⟨b, off, none⟩) 4 c] (fun b => A b ∧ b < w.heap.size) af lf cf F [] W [p, x, e', b'] (freshK F n + 1))) := fun W h => P3.out.below FX.out h
        have HP5 : Hid (∀ W, Hid (PSt w B9 g 4 cap rb #[.string s, .slice (some ⟨b, off, none⟩) 4 c] (fun b => A b ∧ b < w.heap.size) af lf cf F [] W [p, x, e', b'] (freshK F n + 1)) → Hid (PSt w B9 g 4 cap rb #[.string s, .slice (some ⟨b, off, none⟩) 4 c] (fun b => A b ∧ b < w.heap.size) af lf cf F [] ((W.setCell ⟨g, 2, none⟩ (.string nm)).setCell ⟨g, 3, none⟩ (.slice none 0 0)) [p, leafT nm, e', b'] (freshK F n + 1))) := fun W h => PSt.set FX.out h.out h14 (Rep.leaf W (fun _ => False) nm) (fun _ h => h.elim)
        have HE4 : Hid (∀ W, Hid (PSt w B9 g 4 cap rb #[.string s, .slice (some ⟨b, off, none⟩) 4 c] (fun b => A b ∧ b < w.heap.size) af lf cf F [] W [p, x, e', b'] (freshK F n + 1)) → ∃ x y, W.cell? ⟨g, 2, none⟩ = some x ∧ W.cell? ⟨g, 3, none⟩ = some y ∧ W.frozen? ⟨g, 2, none⟩ = false ∧ W.frozen? ⟨g, 3, none⟩ = false ∧ 4 ≤ cap) := fun W h => by
          obtain ⟨x, y, e0, e1, e2, e3, -, e4⟩ := h.out.at h14
          exact ⟨x, y, e0, e1, e2, e3, e4⟩
        have h42 : (1 : Int) < 4 := by omega
        go_wp2_with fail
        go_region_held3 (fun W => W.cell? ⟨B9, 0, none⟩ = some (.string ⟨#[]⟩) ∧ W.cell? ⟨B9, 1, none⟩ = some (.slice (some ⟨g, 0, none⟩) 4 cap))
          (first | with_reducible exact box_cells P5.out.o | with_reducible exact box_cells P4.out.o | with_reducible exact box_cells P3.out.o)
          (first
            | (go_at_call 105; with_reducible refine (HAT.out nm _).mono ?_; rintro e w4 ⟨rfl, hst4⟩; have P4 := HP4.out _ hst4; obtain ⟨xx, yy, e0, e1, e2, e3, hMc⟩ := HE4.out _ P4; have P5 := HP5.out _ P4))
        generalize hW6 : ((w4.setCell ⟨g, 2, none⟩ (.string nm)).setCell ⟨g, 3, none⟩ (.slice none 0 0)) = w6 at *
        clear hW6 e0 e1 e2 e3 P4 hst4 HP4 HP5 HE4 xx yy
        -- the parts of the form, as they lie
        obtain ⟨oe, ne, ce, qe0, qe1, re⟩ := (HRC.out w (grownBy_refl _ _)).nth 2 (k := off + 4) rfl rfl
        have HPE : Hid (∀ W, w.grownBy W (some rb) → W.cell? ⟨b, off + 4, none⟩ = some (.string e'.atom) ∧ W.cell? ⟨b, off + 4 + 1, none⟩ = some (.slice oe ne ce)) := fun W h => ⟨h.cell qe0 (by simpa using hlb.1), h.cell qe1 (by simpa using hlb.1)⟩
        obtain ⟨sN1, sN2⟩ := szs4 hN
        have HIE : Hid (∀ W, Hid (PSt w B9 g 4 cap rb #[.string s, .slice (some ⟨b, off, none⟩) 4 c] (fun b => A b ∧ b < w.heap.size) af lf cf F [] W [p, leafT nm, e', b'] (freshK F n + 1)) → Calls Try.prog 87 #[.agg #[.string e'.atom, .slice oe ne ce], .slice o1 n1 c1, .slice o2 n2 c2, .pointer (some ⟨rb, 0, none⟩)] W fun e w' => ∃ a o l c', e = .returned (.agg #[.string a, .slice o l c']) ∧
            Hid (Rep w' (fun z => ((A z ∧ z < w.heap.size) ∨ w.heap.size + 1 + 1 ≤ z) ∧ z < w'.heap.size ∧ z ≠ g) (e'.ren F fr tt (freshK F n + 1)).1 (.agg #[.string a, .slice o l c'])) ∧
            Hid (PSt w B9 g 4 cap rb #[.string s, .slice (some ⟨b, off, none⟩) 4 c] (fun b => A b ∧ b < w.heap.size) af lf cf F [] w' [p, leafT nm, e', b'] (e'.ren F fr tt (freshK F n + 1)).2)) := fun W P => by
          have s1 := Tree.part_sz (t := .node s [p, x, e', b']) (q := e') (by simp [Tree.parts])
          have t1 := text_part_le (a := s) (ps := [p, x, e', b']) (p := e') (by simp)
          have hg9 := (Array.getElem?_eq_some_iff.1 P.out.o).1
          have hf9 := FX.out.g9
          have hfg := FX.out.gl
          refine (ih e' A (.agg #[.string e'.atom, .slice oe ne ce]) fr tt o1 o2 n1 c1 n2 c2 (freshK F n + 1) W sN1 (Rep.keep (Keeps.grown P.out.gr (fun z hz e => (HA.out z hz).1 (by simpa using e))) _ _ re) (fun z hz => ⟨(HA.out z hz).1, Nat.lt_of_lt_of_le (HA.out z hz).2 P.out.gr.size⟩) (HS1.out W P.out.gr) (HS2.out W P.out.gr)
            (fun z hz => ⟨(HX1.out z hz).1, Nat.lt_of_lt_of_le (HX1.out z hz).2 P.out.gr.size⟩) (fun z hz => ⟨(HX2.out z hz).1, Nat.lt_of_lt_of_le (HX2.out z hz).2 P.out.gr.size⟩) P.out.rn hft (by omega) (by omega) (by omega) (good4 hgood e' (by simp)) he' hnam (by omega)).mono ?_
          rintro e w' ⟨a, o, l, c', rfl, hr, hrn, hgr⟩
          refine ⟨a, o, l, c', rfl, Rep.weak (fun z hz => ?_) _ _ (Rep.bound _ _ hr), P.out.call FX.out hgr hrn⟩
          rcases hz with ⟨hz | hz, hz2⟩
          · have := (HA.out z hz).2
            exact ⟨.inl ⟨hz, this⟩, hz2, by omega⟩
          · exact ⟨.inr (by omega), hz2, by omega⟩
        have h24 : 2 < [p, leafT nm, e', b'].length := by simp
        have HP7 : Hid (∀ (W : World) (a : ByteArray) (o : Option Addr) (l c' : Nat), Hid (Rep W (fun z => ((A z ∧ z < w.heap.size) ∨ w.heap.size + 1 + 1 ≤ z) ∧ z < W.heap.size ∧ z ≠ g) (e'.ren F fr tt (freshK F n + 1)).1 (.agg #[.string a, .slice o l c'])) →
            Hid (PSt w B9 g 4 cap rb #[.string s, .slice (some ⟨b, off, none⟩) 4 c] (fun b => A b ∧ b < w.heap.size) af lf cf F [] W [p, leafT nm, e', b'] (e'.ren F fr tt (freshK F n + 1)).2) → Hid (PSt w B9 g 4 cap rb #[.string s, .slice (some ⟨b, off, none⟩) 4 c] (fun b => A b ∧ b < w.heap.size) af lf cf F [] ((W.setCell ⟨g, 4, none⟩ (.string a)).setCell ⟨g, 5, none⟩ (.slice o l c')) [p, leafT nm, (e'.ren F fr tt (freshK F n + 1)).1, b'] (e'.ren F fr tt (freshK F n + 1)).2)) :=
          fun W a o l c' hr P => PSt.set FX.out P.out h24 hr.out (fun z hz => hz)
        have HE7 : Hid (∀ W L m, Hid (PSt w B9 g 4 cap rb #[.string s, .slice (some ⟨b, off, none⟩) 4 c] (fun b => A b ∧ b < w.heap.size) af lf cf F [] W L m) → 2 < L.length → ∃ x y, W.cell? ⟨g, 4, none⟩ = some x ∧ W.cell? ⟨g, 5, none⟩ = some y ∧ W.frozen? ⟨g, 4, none⟩ = false ∧ W.frozen? ⟨g, 5, none⟩ = false) := fun W L m h hl => by
          obtain ⟨x, y, e0, e1, e2, e3, -, -⟩ := h.out.at hl
          exact ⟨x, y, e0, e1, e2, e3⟩
        have P6 : Hid (PSt w B9 g 4 cap rb #[.string s, .slice (some ⟨b, off, none⟩) 4 c] (fun b => A b ∧ b < w.heap.size) af lf cf F [] w6.drew [p, leafT nm, e', b'] (freshK F n + 1)) := P5.out.below FX.out (Below.refl _ _).drew
        have HIE6 := Lib.hid (HIE.out _ P6)
        have h43 : (2 : Int) < 4 := by omega
        have HSS : Hid (∀ W L m, Hid (PSt w B9 g 4 cap rb #[.string s, .slice (some ⟨b, off, none⟩) 4 c] (fun b => A b ∧ b < w.heap.size) af lf cf F [] W L m) → W.cell? ⟨B9, 0, none⟩ = some (.string ⟨#[]⟩) ∧ W.cell? ⟨B9, 1, none⟩ = some (.slice (some ⟨g, 0, none⟩) 4 cap) ∧ W.cell? ⟨w.heap.size, 0, none⟩ = some (.string s) ∧ W.cell? ⟨w.heap.size, 1, none⟩ = some (.slice (some ⟨b, off, none⟩) 4 c) ∧ W.cell? ⟨b, off + 4, none⟩ = some (.string e'.atom) ∧ W.cell? ⟨b, off + 4 + 1, none⟩ = some (.slice oe ne ce)) := fun W L m P =>
          ⟨(box_cells P.out.o).1, (box_cells P.out.o).2, (box_cells P.out.t).1, (box_cells P.out.t).2, (HPE.out W P.out.gr).1, (HPE.out W P.out.gr).2⟩
        generalize hE1 : (e'.ren F fr tt (freshK F n + 1)).1 = er at *
        generalize hE2 : (e'.ren F fr tt (freshK F n + 1)).2 = en at *
        have HER := Lib.hid (And.intro hE1 hE2)
        clear hE1 hE2 re qe0 qe1
        generalize e'.atom = ea at *
        go_wp2_with fail
        go_region_held3 (fun W => W.cell? ⟨B9, 0, none⟩ = some (.string ⟨#[]⟩) ∧ W.cell? ⟨B9, 1, none⟩ = some (.slice (some ⟨g, 0, none⟩) 4 cap) ∧ W.cell? ⟨w.heap.size, 0, none⟩ = some (.string s) ∧ W.cell? ⟨w.heap.size, 1, none⟩ = some (.slice (some ⟨b, off, none⟩) 4 c) ∧ W.cell? ⟨b, off + 4, none⟩ = some (.string ea) ∧ W.cell? ⟨b, off + 4 + 1, none⟩ = some (.slice oe ne ce))
          (first | with_reducible exact HSS.out _ _ _ P8 | with_reducible exact HSS.out _ _ _ P7 | with_reducible exact HSS.out _ _ _ P6)
          (first
            | (go_at_call 87; with_reducible refine HIE6.out.mono ?_; rintro e w7 ⟨ra, ro, rl, rc, rfl, hr7, P7⟩; obtain ⟨xx, yy, e0, e1, e2, e3⟩ := HE7.out _ _ _ P7 h24; have P8 := HP7.out _ _ _ _ _ hr7 P7))
        generalize hW8 : ((w7.setCell ⟨g, 4, none⟩ (.string ra)).setCell ⟨g, 5, none⟩ (.slice ro rl rc)) = w8 at *
        clear hW8 e0 e1 e2 e3 P7 hr7
        obtain ⟨ox, nx, cx, qx0, -, -⟩ := HPR.out 1 x rfl
        obtain ⟨ob, nb, cb, qb0, qb1, rb'⟩ := HPR.out 3 b' rfl
        generalize hxa : x.atom = xa at *
        have HXA := Lib.hid hxa
        clear hxa
        have HNA : Hid (∀ z ∈ fr ++ [xa], nameB z.data.toList = true) := fun z hz => by
          rcases List.mem_append.1 hz with h | h
          · exact hnam z h
          · rw [List.mem_singleton] at h; rw [h]; exact hx
        obtain ⟨NF, hNF⟩ : ∃ N, ([] : List ByteArray).length + fr.length = N := ⟨_, rfl⟩
        obtain ⟨NT, hNT⟩ : ∃ N, ([] : List ByteArray).length + tt.length = N := ⟨_, rfl⟩
        obtain ⟨N1, hN1⟩ : ∃ N, fr.length + [xa].length = N := ⟨_, rfl⟩
        obtain ⟨N2, hN2⟩ : ∃ N, tt.length + [nm].length = N := ⟨_, rfl⟩
        have hNF0 : NF ≤ 1000000000 := by simp at hNF; omega
        have hNT0 : NT ≤ 1000000000 := by simp at hNT; omega
        have hN10 : N1 ≤ 1000000000 := by simp at hN1; omega
        have hN20 : N2 ≤ 1000000000 := by simp at hN2; omega
        have HNF := Lib.hid hNF
        have HNT := Lib.hid hNT
        have HN1 := Lib.hid hN1
        have HN2 := Lib.hid hN2
        have HLL : Hid ((fr ++ [xa]).length = (tt ++ [nm]).length) := by show _ = _; simp [hft]
        have HLE : Hid ((fr ++ [xa]).length ≤ fr.length + 2) := by show _ ≤ _; simp
        clear hNF hNT hN1 hN2 hft
        have HIX : Hid (∀ (W : World) (o82 o88 : Option Addr) (c82 c88 : Nat), Rows w8 W [(.slice o82 N1 c82, fr ++ [xa]), (.slice o88 N2 c88, tt ++ [nm])] → Calls Try.prog 87 #[.agg #[.string b'.atom, .slice ob nb cb], .slice o82 N1 c82, .slice o88 N2 c88, .pointer (some ⟨rb, 0, none⟩)] W fun e w' => ∃ a o l c', e = .returned (.agg #[.string a, .slice o l c']) ∧
            Hid (Rep w' (fun z => ((A z ∧ z < w.heap.size) ∨ w.heap.size + 1 + 1 ≤ z) ∧ z < w'.heap.size ∧ z ≠ g) (b'.ren F (fr ++ [xa]) (tt ++ [nm]) en).1 (.agg #[.string a, .slice o l c'])) ∧ Hid (PSt w B9 g 4 cap rb #[.string s, .slice (some ⟨b, off, none⟩) 4 c] (fun b => A b ∧ b < w.heap.size) af lf cf F [] w' [p, leafT nm, er, b'] (b'.ren F (fr ++ [xa]) (tt ++ [nm]) en).2)) := fun W o82 o88 c82 c88 hR => by
          have r1 := hR.row _ (List.mem_cons_self ..)
          have r2 := hR.row _ (List.mem_cons_of_mem _ (List.mem_cons_self ..))
          have hrw := FX.out.rl
          have hws := P8.out.gr.size
          exact HIK.out [] 3 b' rfl hb' (fr ++ [xa]) (tt ++ [nm]) o82 o88 N1 c82 N2 c88 [p, leafT nm, er, b'] en W (P8.out.below FX.out hR.bel) r1.read r2.read (fun z hz => by have := r1.addr z hz; omega) (fun z hz => by have := r2.addr z hz; omega) HLL.out HLE.out HNA.out hfin' ob nb cb rb'
        have h34 : 3 < [p, leafT nm, er, b'].length := by simp
        have HP9 : Hid (∀ (W : World) (a : ByteArray) (o : Option Addr) (l c' : Nat), Hid (Rep W (fun z => ((A z ∧ z < w.heap.size) ∨ w.heap.size + 1 + 1 ≤ z) ∧ z < W.heap.size ∧ z ≠ g) (b'.ren F (fr ++ [xa]) (tt ++ [nm]) en).1 (.agg #[.string a, .slice o l c'])) →
            Hid (PSt w B9 g 4 cap rb #[.string s, .slice (some ⟨b, off, none⟩) 4 c] (fun b => A b ∧ b < w.heap.size) af lf cf F [] W [p, leafT nm, er, b'] (b'.ren F (fr ++ [xa]) (tt ++ [nm]) en).2) → Hid (PSt w B9 g 4 cap rb #[.string s, .slice (some ⟨b, off, none⟩) 4 c] (fun b => A b ∧ b < w.heap.size) af lf cf F [] ((W.setCell ⟨g, 6, none⟩ (.string a)).setCell ⟨g, 7, none⟩ (.slice o l c')) [p, leafT nm, er, (b'.ren F (fr ++ [xa]) (tt ++ [nm]) en).1] (b'.ren F (fr ++ [xa]) (tt ++ [nm]) en).2)) :=
          fun W a o l c' hr P => PSt.set FX.out P.out h34 hr.out (fun z hz => hz)
        have HE9 : Hid (∀ W L m, Hid (PSt w B9 g 4 cap rb #[.string s, .slice (some ⟨b, off, none⟩) 4 c] (fun b => A b ∧ b < w.heap.size) af lf cf F [] W L m) → 3 < L.length → ∃ x y, W.cell? ⟨g, 6, none⟩ = some x ∧ W.cell? ⟨g, 7, none⟩ = some y ∧ W.frozen? ⟨g, 6, none⟩ = false ∧ W.frozen? ⟨g, 7, none⟩ = false) := fun W L m h hl => by
          obtain ⟨x, y, e0, e1, e2, e3, -, -⟩ := h.out.at hl
          exact ⟨x, y, e0, e1, e2, e3⟩
        have h44 : (3 : Int) < 4 := by omega
        generalize hbr : (b'.ren F (fr ++ [xa]) (tt ++ [nm]) en).1 = br at *
        generalize hbn : (b'.ren F (fr ++ [xa]) (tt ++ [nm]) en).2 = bn at *
        have HBR := Lib.hid (And.intro hbr hbn)
        clear hbr hbn
        have HSS11 : Hid (∀ W L m, Hid (PSt w B9 g 4 cap rb #[.string s, .slice (some ⟨b, off, none⟩) 4 c] (fun b => A b ∧ b < w.heap.size) af lf cf F [] W L m) → W.cell? ⟨B9, 0, none⟩ = some (.string ⟨#[]⟩) ∧ W.cell? ⟨B9, 1, none⟩ = some (.slice (some ⟨g, 0, none⟩) 4 cap) ∧ W.cell? ⟨w.heap.size, 0, none⟩ = some (.string s) ∧ W.cell? ⟨w.heap.size, 1, none⟩ = some (.slice (some ⟨b, off, none⟩) 4 c) ∧ W.cell? ⟨b, off + 2, none⟩ = some (.string xa) ∧ W.cell? ⟨b, off + 6, none⟩ = some (.string b'.atom) ∧ W.cell? ⟨b, off + 6 + 1, none⟩ = some (.slice ob nb cb)) := fun W L m P =>
          ⟨(box_cells P.out.o).1, (box_cells P.out.o).2, (box_cells P.out.t).1, (box_cells P.out.t).2, HCL.out W P.out.gr _ _ _ hAb qx0, HCL.out W P.out.gr _ _ _ hAb qb0, HCL.out W P.out.gr _ _ _ hAb qb1⟩
        have HS11 := Lib.hid (fun W (h : Below w8.heap.size w8 W) => HSS11.out W _ _ (P8.out.below FX.out h))
        generalize b'.atom = ba at *
        have HSF : Hid (∀ W, Below w8.heap.size w8 W → Strs W o1 n1 fr) := fun W h => HS1.out W (P8.out.below FX.out h).gr
        have HST : Hid (∀ W, Below w8.heap.size w8 W → Strs W o2 n2 tt) := fun W h => HS2.out W (P8.out.below FX.out h).gr
        have HB0 : Hid (Below w8.heap.size w8 w8.drew) := (Below.refl _ _).drew
        clear qx0 qb0 qb1 rb' hnam hx
        go_wp2_with fail
        refine wp_region_held_drew (S := (fun W => W.cell? ⟨B9, 0, none⟩ = some (.string ⟨#[]⟩) ∧ W.cell? ⟨B9, 1, none⟩ = some (.slice (some ⟨g, 0, none⟩) 4 cap) ∧ W.cell? ⟨w.heap.size, 0, none⟩ = some (.string s) ∧ W.cell? ⟨w.heap.size, 1, none⟩ = some (.slice (some ⟨b, off, none⟩) 4 c) ∧ W.cell? ⟨b, off + 2, none⟩ = some (.string xa) ∧ W.cell? ⟨b, off + 6, none⟩ = some (.string ba) ∧ W.cell? ⟨b, off + 6 + 1, none⟩ = some (.slice ob nb cb))) (by kernel_rfl) ?_ (fun hHeld => ?_)
        · (try dsimp only); exact HS11.out _ HB0.out
        refine wpAnyH_take (i := 0) (v := ?_) (by simp only [List.getElem?_toArray, List.getElem?_cons_zero]; rfl) (by kernel_rfl) (by kernel_rfl) (by kernel_rfl) (by exact fun _ _ _ h => h) (Or.inl ⟨by rfl, ?_⟩) (by assumption) ?_
        rotate_left
        · intro W hSW; (try dsimp only at hSW); go_simp; (try with_reducible rfl)
        (try simp only [Act.put, List.setIfInBounds_toArray, List.set_cons_zero, List.set_cons_succ])
        refine wpAnyH_take (i := 1) (v := ?_) (by simp only [List.getElem?_toArray, List.getElem?_cons_zero, List.getElem?_cons_succ]; rfl) (by kernel_rfl) (by kernel_rfl) (by kernel_rfl) (by exact fun _ _ _ h => h) (Or.inl ⟨by rfl, ?_⟩) (by assumption) ?_
        rotate_left
        · intro W hSW; (try dsimp only at hSW); go_simp; (try with_reducible rfl)
        (try simp only [Act.put, List.setIfInBounds_toArray, List.set_cons_zero, List.set_cons_succ])
        refine wpAnyH_take (i := 2) (v := ?_) (by simp only [List.getElem?_toArray, List.getElem?_cons_zero, List.getElem?_cons_succ]; rfl) (by kernel_rfl) (by kernel_rfl) (by kernel_rfl) (by exact fun _ _ _ h => h) (Or.inl ⟨by rfl, ?_⟩) (by assumption) ?_
        rotate_left
        · intro W hSW; (try dsimp only at hSW); go_simp; (try with_reducible rfl)
        (try simp only [Act.put, List.setIfInBounds_toArray, List.set_cons_zero, List.set_cons_succ])
        refine wpAnyH_take (i := 3) (v := ?_) (by simp only [List.getElem?_toArray, List.getElem?_cons_zero, List.getElem?_cons_succ]; rfl) (by kernel_rfl) (by kernel_rfl) (by kernel_rfl) (by exact fun _ _ _ h => h) (Or.inl ⟨by rfl, ?_⟩) (by assumption) ?_
        rotate_left
        · intro W hSW; (try dsimp only at hSW); go_simp; (try with_reducible rfl)
        (try simp only [Act.put, List.setIfInBounds_toArray, List.set_cons_zero, List.set_cons_succ])
        refine wpAnyH_take (i := 4) (v := ?_) (by simp only [List.getElem?_toArray, List.getElem?_cons_zero, List.getElem?_cons_succ]; rfl) (by kernel_rfl) (by kernel_rfl) (by kernel_rfl) (by exact fun _ _ _ h => h) (Or.inl ⟨by rfl, ?_⟩) (by assumption) ?_
        rotate_left
        · intro W hSW; (try dsimp only at hSW); go_simp; (try with_reducible rfl)
        (try simp only [Act.put, List.setIfInBounds_toArray, List.set_cons_zero, List.set_cons_succ])
        refine wpAnyH_take (i := 5) (v := ?_) (by simp only [List.getElem?_toArray, List.getElem?_cons_zero, List.getElem?_cons_succ]; rfl) (by kernel_rfl) (by kernel_rfl) (by kernel_rfl) (by exact fun _ _ _ h => h) (Or.inl ⟨by rfl, ?_⟩) (by assumption) ?_
        rotate_left
        · intro W hSW; (try dsimp only at hSW); go_simp; (try with_reducible rfl)
        (try simp only [Act.put, List.setIfInBounds_toArray, List.set_cons_zero, List.set_cons_succ])
        refine wpAnyH_take (i := 7) (v := ?_) (by simp only [List.getElem?_toArray, List.getElem?_cons_zero, List.getElem?_cons_succ]; rfl) (by kernel_rfl) (by kernel_rfl) (by kernel_rfl) (by exact fun _ _ _ h => h) (Or.inl ⟨by rfl, ?_⟩) (by assumption) ?_
        rotate_left
        · intro W hSW; (try dsimp only at hSW); go_simp; (try with_reducible rfl)
        (try simp only [Act.put, List.setIfInBounds_toArray, List.set_cons_zero, List.set_cons_succ])
        refine wpAnyH_take (i := 9) (v := ?_) (by simp only [List.getElem?_toArray, List.getElem?_cons_zero, List.getElem?_cons_succ]; rfl) (by kernel_rfl) (by kernel_rfl) (by kernel_rfl) (by exact fun _ _ _ h => h) (Or.inl ⟨by rfl, ?_⟩) (by assumption) ?_
        rotate_left
        · intro W hSW; (try dsimp only at hSW); go_simp; (try with_reducible rfl)
        (try simp only [Act.put, List.setIfInBounds_toArray, List.set_cons_zero, List.set_cons_succ])
        refine wpAnyH_take (i := 10) (v := ?_) (by simp only [List.getElem?_toArray, List.getElem?_cons_zero, List.getElem?_cons_succ]; rfl) (by kernel_rfl) (by kernel_rfl) (by kernel_rfl) (by exact fun _ _ _ h => h) (Or.inl ⟨by rfl, ?_⟩) (by assumption) ?_
        rotate_left
        · intro W hSW; (try dsimp only at hSW); go_simp; (try with_reducible rfl)
        (try simp only [Act.put, List.setIfInBounds_toArray, List.set_cons_zero, List.set_cons_succ])
        refine wpAnyH_take (i := 11) (v := ?_) (by simp only [List.getElem?_toArray, List.getElem?_cons_zero, List.getElem?_cons_succ]; rfl) (by kernel_rfl) (by kernel_rfl) (by kernel_rfl) (by exact fun _ _ _ h => h) (Or.inl ⟨by rfl, ?_⟩) (by assumption) ?_
        rotate_left
        · intro W hSW; (try dsimp only at hSW); go_simp; (try with_reducible rfl)
        (try simp only [Act.put, List.setIfInBounds_toArray, List.set_cons_zero, List.set_cons_succ])
        refine wpAnyH_take (i := 12) (v := ?_) (by simp only [List.getElem?_toArray, List.getElem?_cons_zero, List.getElem?_cons_succ]; rfl) (by kernel_rfl) (by kernel_rfl) (by kernel_rfl) (by exact fun _ _ _ h => h) (Or.inl ⟨by rfl, ?_⟩) (by assumption) ?_
        rotate_left
        · intro W hSW; (try dsimp only at hSW); go_simp; (try with_reducible rfl)
        (try simp only [Act.put, List.setIfInBounds_toArray, List.set_cons_zero, List.set_cons_succ])
        refine wpAnyH_take (i := 13) (v := ?_) (by simp only [List.getElem?_toArray, List.getElem?_cons_zero, List.getElem?_cons_succ]; rfl) (by kernel_rfl) (by kernel_rfl) (by kernel_rfl) (by exact fun _ _ _ h => h) (Or.inl ⟨by rfl, ?_⟩) (by assumption) ?_
        rotate_left
        · intro W hSW; (try dsimp only at hSW); go_simp; (try with_reducible rfl)
        (try simp only [Act.put, List.setIfInBounds_toArray, List.set_cons_zero, List.set_cons_succ])
        refine wpAnyH_take (i := 17) (v := ?_) (by simp only [List.getElem?_toArray, List.getElem?_cons_zero, List.getElem?_cons_succ]; rfl) (by kernel_rfl) (by kernel_rfl) (by kernel_rfl) (by exact fun _ _ _ h => h) (Or.inl ⟨by rfl, ?_⟩) (by assumption) ?_
        rotate_left
        · intro W hSW; (try dsimp only at hSW); go_simp; (try with_reducible rfl)
        (try simp only [Act.put, List.setIfInBounds_toArray, List.set_cons_zero, List.set_cons_succ])
        refine wpAnyH_take (i := 19) (v := ?_) (by simp only [List.getElem?_toArray, List.getElem?_cons_zero, List.getElem?_cons_succ]; rfl) (by kernel_rfl) (by kernel_rfl) (by kernel_rfl) (by exact fun _ _ _ h => h) (Or.inl ⟨by rfl, ?_⟩) (by assumption) ?_
        rotate_left
        · intro W hSW; (try dsimp only at hSW); go_simp; (try with_reducible rfl)
        (try simp only [Act.put, List.setIfInBounds_toArray, List.set_cons_zero, List.set_cons_succ])
        refine wpAnyH_take (i := 22) (v := ?_) (by simp only [List.getElem?_toArray, List.getElem?_cons_zero, List.getElem?_cons_succ]; rfl) (by kernel_rfl) (by kernel_rfl) (by kernel_rfl) (by exact fun _ _ _ h => h) (Or.inl ⟨by rfl, ?_⟩) (by assumption) ?_
        rotate_left
        · intro W hSW; (try dsimp only at hSW); go_simp; (try with_reducible rfl)
        (try simp only [Act.put, List.setIfInBounds_toArray, List.set_cons_zero, List.set_cons_succ])
        refine anyH_abs8 73 75 81 82 83 85 87 88 ?_ (fun G hin hout => ?_)
        · simp only [List.setIfInBounds_toArray, List.set_cons_zero, List.set_cons_succ]
        have HIN := Lib.hid hin
        have HOUT := Lib.hid hout
        clear hin hout hHeld
        have St11111111 : Hid (∀ (W : World) (g73 : Nat) (o75 : Option Addr) (c75 : Nat) (g81 : Nat) (o82 : Option Addr) (c82 : Nat) (g83 : Nat) (o85 : Option Addr) (c85 : Nat) (g87 : Nat) (o88 : Option Addr) (c88 : Nat), Rows w8 W [(.slice o82 N1 c82, fr ++ [xa]), (.slice o88 N2 c88, tt ++ [nm])] → G 3 #[true, true, true, true, true, true, true, true, true, true, true, true, true, true, true, true, true, true, true, true, true, true, true, false, false, false] (.slice (some ⟨g73, 0, none⟩) 0 0) (.slice o75 NF c75) (.slice (some ⟨g81, 0, none⟩) 1 1) (.slice o82 N1 c82) (.slice (some ⟨g83, 0, none⟩) 0 0) (.slice o85 NT c85) (.slice (some ⟨g87, 0, none⟩) 1 1) (.slice o88 N2 c88) W) := by
          refine Lib.hid ?_
          intro W g73 o75 c75 g81 o82 c82 g83 o85 c85 g87 o88 c88 HR0
          have HR := Lib.hid HR0
          clear HR0
          refine HIN.out _ _ _ _ _ _ _ _ _ _ _ ?_
          simp only [List.setIfInBounds_toArray, List.set_cons_zero, List.set_cons_succ]
          refine wpAnyH_ready (rs := [23]) (by kernel_rfl) (by simp) ?_
          refine AllReadyH.cons (by simp only [List.getElem?_toArray, List.getElem?_cons_zero, List.getElem?_cons_succ]; rfl) (fun K hK => ?_) AllReadyH.nil
          go_simp
          (go_at_call 87; with_reducible refine (HIX.out W o82 o88 c82 c88 HR.out).mono ?_; rintro e w9 ⟨ra, ro, rl, rc, rfl, hr9, P9⟩)
          (try go_wp2_with fail)
          refine hK.out _ _ ?_ (fun hHeld => ?_)
          · (try dsimp only); exact HSS11.out _ _ _ P9
          clear hK K
          (try simp only [List.setIfInBounds_toArray, List.set_cons_zero, List.set_cons_succ])
          obtain ⟨xx, yy, e0, e1, e2, e3⟩ := HE9.out _ _ _ P9 h34
          have P10 := HP9.out _ _ _ _ _ hr9 P9
          refine wpAnyH_take (i := 24) (v := ?_) (by simp only [List.getElem?_toArray, List.getElem?_cons_zero, List.getElem?_cons_succ]; rfl) (by kernel_rfl) (by kernel_rfl) (by kernel_rfl) (by exact fun _ _ _ h => h) (Or.inl ⟨by rfl, ?_⟩) (by assumption) ?_
          rotate_left
          · intro W hSW; (try dsimp only at hSW); go_simp; (try with_reducible rfl)
          (try simp only [Act.put, List.setIfInBounds_toArray, List.set_cons_zero, List.set_cons_succ])
          refine wpAnyH_ready (rs := [25]) (by kernel_rfl) (by simp) ?_
          refine AllReadyH.cons (by simp only [List.getElem?_toArray, List.getElem?_cons_zero, List.getElem?_cons_succ]; rfl) (fun K hK => ?_) AllReadyH.nil
          go_simp
          (try go_wp2_with fail)
          refine hK.out _ _ ?_ (fun hHeld => ?_)
          · (try dsimp only); exact HSS11.out _ _ _ P10
          clear hK K
          (try simp only [List.setIfInBounds_toArray, List.set_cons_zero, List.set_cons_succ])
          refine wpAnyH_done (by kernel_rfl) ?_ _
          clear hHeld e0 e1 e2 e3 P9
          obtain ⟨wo0, wo1⟩ := box_cells P10.out.o
          obtain ⟨r0, r1⟩ := box_cells P10.out.r
          have fr0 := Lib.frozen_of_heap P10.out.r 0
          have fr1 := Lib.frozen_of_heap P10.out.r 1
          have HEND := Lib.hid (pst_end FX.out P10.out (fun z hz => hz.2) (.string ⟨#[]⟩) (.slice (some ⟨g, 0, none⟩) 4 cap))
          generalize ((w9.setCell ⟨g, 6, none⟩ (.string ra)).setCell ⟨g, 7, none⟩ (.slice ro rl rc)) = w11 at *
          clear hr9
          go_wp2
          obtain ⟨hbr, hbn⟩ := HBR.out
          obtain ⟨her, hen⟩ := HER.out
          have hre := HRE.out
          exact bodyPost_ret (v := .agg #[.string ⟨#[]⟩, .slice (some ⟨g, 0, none⟩) 4 cap]) (by simp [results, Try.results87, go_sem, r0, r1]) rfl ⟨⟨#[]⟩, some ⟨g, 0, none⟩, 4, cap, rfl, by rw [hre]; exact Rep.weak (fun z hz => hz.imp (fun h => h.1) id) _ _ HEND.out.1, by rw [hre]; exact HEND.out.2.1, HEND.out.2.2⟩
        have St11111110 : Hid (∀ (W : World) (g73 : Nat) (o75 : Option Addr) (c75 : Nat) (g81 : Nat) (o82 : Option Addr) (c82 : Nat) (g83 : Nat) (o85 : Option Addr) (c85 : Nat) (g87 : Nat), Rows w8 W [(.slice o82 N1 c82, fr ++ [xa]), (.slice o85 NT c85, tt), (.slice (some ⟨g87, 0, none⟩) 1 1, [nm])] → G 4 #[true, true, true, true, true, true, true, true, true, true, true, true, true, true, true, true, true, true, true, true, true, false, true, false, false, false] (.slice (some ⟨g73, 0, none⟩) 0 0) (.slice o75 NF c75) (.slice (some ⟨g81, 0, none⟩) 1 1) (.slice o82 N1 c82) (.slice (some ⟨g83, 0, none⟩) 0 0) (.slice o85 NT c85) (.slice (some ⟨g87, 0, none⟩) 1 1) undef W) := by
          refine Lib.hid ?_
          intro W g73 o75 c75 g81 o82 c82 g83 o85 c85 g87 HR0
          have HR := Lib.hid HR0
          clear HR0
          refine HIN.out _ _ _ _ _ _ _ _ _ _ _ ?_
          simp only [List.setIfInBounds_toArray, List.set_cons_zero, List.set_cons_succ]
          refine wpAnyH_ready (rs := [21]) (by kernel_rfl) (by simp) ?_
          refine (AllReadyH.cons (by simp only [List.getElem?_toArray, List.getElem?_cons_zero, List.getElem?_cons_succ]; rfl) (fun K hK => ?_) AllReadyH.nil)
          · have HF : Hid (Rows w8 W ((.slice o85 NT c85, tt) :: ([(.slice o82 N1 c82, fr ++ [xa])] ++ [(.slice (some ⟨g87, 0, none⟩) 1 1, [nm])]))) := Rows.front (A := [(.slice o82 N1 c82, fr ++ [xa])]) (B := [(.slice (some ⟨g87, 0, none⟩) 1 1, [nm])]) HR.out
            have HQ : Hid (Strs W (some ⟨g87, 0, none⟩) 1 [nm]) := (HF.out.row (.slice (some ⟨g87, 0, none⟩) 1 1, [nm]) (List.mem_cons_of_mem _ (List.mem_cons_of_mem _ (List.mem_cons_self ..)))).read
            refine step_append_at (by rfl) (.tmp 85) (.tmp 87) (by rfl) w8.heap.size (.slice o85 NT c85) (by rfl) (tt) (some ⟨g87, 0, none⟩) 1 1 (by rfl) [nm] N2 HN2.out (HF.out.row _ (List.mem_cons_self ..)) (HQ.out) hN20 HR.out.bel.size ?_
            intro o' c' w' hv hg ho
            have HN0 : Rows w8 w' ((.slice o' N2 c', tt ++ [nm]) :: ([(.slice o82 N1 c82, fr ++ [xa])] ++ [(.slice (some ⟨g87, 0, none⟩) 1 1, [nm])])) := HF.out.append hg hv ho
            have HN1 : Rows w8 w' [(.slice o82 N1 c82, fr ++ [xa]), (.slice o' N2 c', tt ++ [nm]), (.slice (some ⟨g87, 0, none⟩) 1 1, [nm])] := Rows.back (A := [(.slice o82 N1 c82, fr ++ [xa])]) (B := [(.slice (some ⟨g87, 0, none⟩) 1 1, [nm])]) HN0
            have HN2 : Rows w8 w' [(.slice o82 N1 c82, fr ++ [xa]), (.slice o' N2 c', tt ++ [nm])] := Rows.drop (A := [(.slice o82 N1 c82, fr ++ [xa]), (.slice o' N2 c', tt ++ [nm])]) (B := []) HN1
            have HN := Lib.hid HN2
            clear HN0 HN1 HN2 hv hg ho
            refine hK.out _ _ ?_ (fun hHeld => ?_)
            · (try dsimp only); exact HS11.out _ HN.out.bel
            clear hK K hHeld
            (try simp only [Act.put, List.setIfInBounds_toArray, List.set_cons_zero, List.set_cons_succ])
            have h := HOUT.out _ _ _ _ _ _ _ _ _ _ _ (St11111111.out _ g73 o75 c75 g81 o82 c82 g83 o85 c85 g87 o' c' HN.out)
            simp only [List.setIfInBounds_toArray, List.set_cons_zero, List.set_cons_succ] at h
            exact h
        have St11111100 : Hid (∀ (W : World) (g73 : Nat) (o75 : Option Addr) (c75 : Nat) (g81 : Nat) (o82 : Option Addr) (c82 : Nat) (g83 : Nat) (o85 : Option Addr) (c85 : Nat), Rows w8 W [(.slice o82 N1 c82, fr ++ [xa]), (.slice o85 NT c85, tt)] → G 5 #[true, true, true, true, true, true, true, true, true, true, true, true, true, true, true, true, true, true, true, true, false, false, true, false, false, false] (.slice (some ⟨g73, 0, none⟩) 0 0) (.slice o75 NF c75) (.slice (some ⟨g81, 0, none⟩) 1 1) (.slice o82 N1 c82) (.slice (some ⟨g83, 0, none⟩) 0 0) (.slice o85 NT c85) undef undef W) := by
          refine Lib.hid ?_
          intro W g73 o75 c75 g81 o82 c82 g83 o85 c85 HR0
          have HR := Lib.hid HR0
          clear HR0
          refine HIN.out _ _ _ _ _ _ _ _ _ _ _ ?_
          simp only [List.setIfInBounds_toArray, List.set_cons_zero, List.set_cons_succ]
          refine wpAnyH_ready (rs := [20]) (by kernel_rfl) (by simp) ?_
          refine (AllReadyH.cons (by simp only [List.getElem?_toArray, List.getElem?_cons_zero, List.getElem?_cons_succ]; rfl) (fun K hK => ?_) AllReadyH.nil)
          · have HN0 : Rows w8 (W.alloc (.cells #[.string nm] 9)) ((.slice (some ⟨W.heap.size, 0, none⟩) 1 1, [nm]) :: ([(.slice o82 N1 c82, fr ++ [xa]), (.slice o85 NT c85, tt)] ++ [])) := HR.out.alloc _ (SRow.one W nm HR.out.bel.size) rfl
            have HN : Hid (Rows w8 (W.alloc (.cells #[.string nm] 9)) [(.slice o82 N1 c82, fr ++ [xa]), (.slice o85 NT c85, tt), (.slice (some ⟨W.heap.size, 0, none⟩) 1 1, [nm])]) := HN0.back
            clear HN0
            go_simp
            refine hK.out _ _ ?_ (fun hHeld => ?_)
            · (try dsimp only); exact HS11.out _ HN.out.bel
            clear hK K hHeld
            (try simp only [List.setIfInBounds_toArray, List.set_cons_zero, List.set_cons_succ])
            have h := HOUT.out _ _ _ _ _ _ _ _ _ _ _ (St11111110.out _ g73 o75 c75 g81 o82 c82 g83 o85 c85 _ HN.out)
            simp only [List.setIfInBounds_toArray, List.set_cons_zero, List.set_cons_succ] at h
            exact h
        have St11111010 : Hid (∀ (W : World) (g73 : Nat) (o75 : Option Addr) (c75 : Nat) (g81 : Nat) (o82 : Option Addr) (c82 : Nat) (g83 : Nat) (g87 : Nat), Rows w8 W [(.slice o82 N1 c82, fr ++ [xa]), (.slice (some ⟨g83, 0, none⟩) 0 0, []), (.slice (some ⟨g87, 0, none⟩) 1 1, [nm])] → G 5 #[true, true, true, true, true, true, true, true, true, true, true, true, true, true, true, true, true, true, false, true, true, false, true, false, false, false] (.slice (some ⟨g73, 0, none⟩) 0 0) (.slice o75 NF c75) (.slice (some ⟨g81, 0, none⟩) 1 1) (.slice o82 N1 c82) (.slice (some ⟨g83, 0, none⟩) 0 0) undef (.slice (some ⟨g87, 0, none⟩) 1 1) undef W) := by
          refine Lib.hid ?_
          intro W g73 o75 c75 g81 o82 c82 g83 g87 HR0
          have HR := Lib.hid HR0
          clear HR0
          refine HIN.out _ _ _ _ _ _ _ _ _ _ _ ?_
          simp only [List.setIfInBounds_toArray, List.set_cons_zero, List.set_cons_succ]
          refine wpAnyH_ready (rs := [18]) (by kernel_rfl) (by simp) ?_
          refine (AllReadyH.cons (by simp only [List.getElem?_toArray, List.getElem?_cons_zero, List.getElem?_cons_succ]; rfl) (fun K hK => ?_) AllReadyH.nil)
          · have HF : Hid (Rows w8 W ((.slice (some ⟨g83, 0, none⟩) 0 0, []) :: ([(.slice o82 N1 c82, fr ++ [xa])] ++ [(.slice (some ⟨g87, 0, none⟩) 1 1, [nm])]))) := Rows.front (A := [(.slice o82 N1 c82, fr ++ [xa])]) (B := [(.slice (some ⟨g87, 0, none⟩) 1 1, [nm])]) HR.out
            refine step_append_at (by rfl) (.tmp 83) (.tmp 84) (by rfl) w8.heap.size (.slice (some ⟨g83, 0, none⟩) 0 0) (by rfl) ([]) o2 n2 c2 (by rfl) tt NT HNT.out (HF.out.row _ (List.mem_cons_self ..)) (HST.out W HR.out.bel) hNT0 HR.out.bel.size ?_
            intro o' c' w' hv hg ho
            have HN0 : Rows w8 w' ((.slice o' NT c', tt) :: ([(.slice o82 N1 c82, fr ++ [xa])] ++ [(.slice (some ⟨g87, 0, none⟩) 1 1, [nm])])) := HF.out.append hg hv ho
            have HN1 : Rows w8 w' [(.slice o82 N1 c82, fr ++ [xa]), (.slice o' NT c', tt), (.slice (some ⟨g87, 0, none⟩) 1 1, [nm])] := Rows.back (A := [(.slice o82 N1 c82, fr ++ [xa])]) (B := [(.slice (some ⟨g87, 0, none⟩) 1 1, [nm])]) HN0
            have HN := Lib.hid HN1
            clear HN0 HN1 hv hg ho
            refine hK.out _ _ ?_ (fun hHeld => ?_)
            · (try dsimp only); exact HS11.out _ HN.out.bel
            clear hK K hHeld
            (try simp only [Act.put, List.setIfInBounds_toArray, List.set_cons_zero, List.set_cons_succ])
            have h := HOUT.out _ _ _ _ _ _ _ _ _ _ _ (St11111110.out _ g73 o75 c75 g81 o82 c82 g83 o' c' g87 HN.out)
            simp only [List.setIfInBounds_toArray, List.set_cons_zero, List.set_cons_succ] at h
            exact h
        have St11111000 : Hid (∀ (W : World) (g73 : Nat) (o75 : Option Addr) (c75 : Nat) (g81 : Nat) (o82 : Option Addr) (c82 : Nat) (g83 : Nat), Rows w8 W [(.slice o82 N1 c82, fr ++ [xa]), (.slice (some ⟨g83, 0, none⟩) 0 0, [])] → G 6 #[true, true, true, true, true, true, true, true, true, true, true, true, true, true, true, true, true, true, false, true, false, false, true, false, false, false] (.slice (some ⟨g73, 0, none⟩) 0 0) (.slice o75 NF c75) (.slice (some ⟨g81, 0, none⟩) 1 1) (.slice o82 N1 c82) (.slice (some ⟨g83, 0, none⟩) 0 0) undef undef undef W) := by
          refine Lib.hid ?_
          intro W g73 o75 c75 g81 o82 c82 g83 HR0
          have HR := Lib.hid HR0
          clear HR0
          refine HIN.out _ _ _ _ _ _ _ _ _ _ _ ?_
          simp only [List.setIfInBounds_toArray, List.set_cons_zero, List.set_cons_succ]
          refine wpAnyH_ready (rs := [18, 20]) (by kernel_rfl) (by simp) ?_
          refine (AllReadyH.cons (by simp only [List.getElem?_toArray, List.getElem?_cons_zero, List.getElem?_cons_succ]; rfl) (fun K hK => ?_) (AllReadyH.cons (by simp only [List.getElem?_toArray, List.getElem?_cons_zero, List.getElem?_cons_succ]; rfl) (fun K hK => ?_) AllReadyH.nil))
          · have HF : Hid (Rows w8 W ((.slice (some ⟨g83, 0, none⟩) 0 0, []) :: ([(.slice o82 N1 c82, fr ++ [xa])] ++ []))) := Rows.front (A := [(.slice o82 N1 c82, fr ++ [xa])]) (B := []) HR.out
            refine step_append_at (by rfl) (.tmp 83) (.tmp 84) (by rfl) w8.heap.size (.slice (some ⟨g83, 0, none⟩) 0 0) (by rfl) ([]) o2 n2 c2 (by rfl) tt NT HNT.out (HF.out.row _ (List.mem_cons_self ..)) (HST.out W HR.out.bel) hNT0 HR.out.bel.size ?_
            intro o' c' w' hv hg ho
            have HN0 : Rows w8 w' ((.slice o' NT c', tt) :: ([(.slice o82 N1 c82, fr ++ [xa])] ++ [])) := HF.out.append hg hv ho
            have HN1 : Rows w8 w' [(.slice o82 N1 c82, fr ++ [xa]), (.slice o' NT c', tt)] := Rows.back (A := [(.slice o82 N1 c82, fr ++ [xa])]) (B := []) HN0
            have HN := Lib.hid HN1
            clear HN0 HN1 hv hg ho
            refine hK.out _ _ ?_ (fun hHeld => ?_)
            · (try dsimp only); exact HS11.out _ HN.out.bel
            clear hK K hHeld
            (try simp only [Act.put, List.setIfInBounds_toArray, List.set_cons_zero, List.set_cons_succ])
            have h := HOUT.out _ _ _ _ _ _ _ _ _ _ _ (St11111100.out _ g73 o75 c75 g81 o82 c82 g83 o' c' HN.out)
            simp only [List.setIfInBounds_toArray, List.set_cons_zero, List.set_cons_succ] at h
            exact h
          · have HN0 : Rows w8 (W.alloc (.cells #[.string nm] 9)) ((.slice (some ⟨W.heap.size, 0, none⟩) 1 1, [nm]) :: ([(.slice o82 N1 c82, fr ++ [xa]), (.slice (some ⟨g83, 0, none⟩) 0 0, [])] ++ [])) := HR.out.alloc _ (SRow.one W nm HR.out.bel.size) rfl
            have HN : Hid (Rows w8 (W.alloc (.cells #[.string nm] 9)) [(.slice o82 N1 c82, fr ++ [xa]), (.slice (some ⟨g83, 0, none⟩) 0 0, []), (.slice (some ⟨W.heap.size, 0, none⟩) 1 1, [nm])]) := HN0.back
            clear HN0
            go_simp
            refine hK.out _ _ ?_ (fun hHeld => ?_)
            · (try dsimp only); exact HS11.out _ HN.out.bel
            clear hK K hHeld
            (try simp only [List.setIfInBounds_toArray, List.set_cons_zero, List.set_cons_succ])
            have h := HOUT.out _ _ _ _ _ _ _ _ _ _ _ (St11111010.out _ g73 o75 c75 g81 o82 c82 g83 _ HN.out)
            simp only [List.setIfInBounds_toArray, List.set_cons_zero, List.set_cons_succ] at h
            exact h
        have St11110010 : Hid (∀ (W : World) (g73 : Nat) (o75 : Option Addr) (c75 : Nat) (g81 : Nat) (o82 : Option Addr) (c82 : Nat) (g87 : Nat), Rows w8 W [(.slice o82 N1 c82, fr ++ [xa]), (.slice (some ⟨g87, 0, none⟩) 1 1, [nm])] → G 6 #[true, true, true, true, true, true, true, true, true, true, true, true, true, true, true, true, false, true, false, true, true, false, true, false, false, false] (.slice (some ⟨g73, 0, none⟩) 0 0) (.slice o75 NF c75) (.slice (some ⟨g81, 0, none⟩) 1 1) (.slice o82 N1 c82) undef undef (.slice (some ⟨g87, 0, none⟩) 1 1) undef W) := by
          refine Lib.hid ?_
          intro W g73 o75 c75 g81 o82 c82 g87 HR0
          have HR := Lib.hid HR0
          clear HR0
          refine HIN.out _ _ _ _ _ _ _ _ _ _ _ ?_
          simp only [List.setIfInBounds_toArray, List.set_cons_zero, List.set_cons_succ]
          refine wpAnyH_ready (rs := [16]) (by kernel_rfl) (by simp) ?_
          refine (AllReadyH.cons (by simp only [List.getElem?_toArray, List.getElem?_cons_zero, List.getElem?_cons_succ]; rfl) (fun K hK => ?_) AllReadyH.nil)
          · have HN0 : Rows w8 (W.alloc (.cells #[] 9)) ((.slice (some ⟨W.heap.size, 0, none⟩) 0 0, []) :: ([(.slice o82 N1 c82, fr ++ [xa])] ++ [(.slice (some ⟨g87, 0, none⟩) 1 1, [nm])])) := HR.out.alloc _ (SRow.empty W HR.out.bel.size) rfl
            have HN : Hid (Rows w8 (W.alloc (.cells #[] 9)) [(.slice o82 N1 c82, fr ++ [xa]), (.slice (some ⟨W.heap.size, 0, none⟩) 0 0, []), (.slice (some ⟨g87, 0, none⟩) 1 1, [nm])]) := HN0.back
            clear HN0
            go_simp
            refine hK.out _ _ ?_ (fun hHeld => ?_)
            · (try dsimp only); exact HS11.out _ HN.out.bel
            clear hK K hHeld
            (try simp only [List.setIfInBounds_toArray, List.set_cons_zero, List.set_cons_succ])
            have h := HOUT.out _ _ _ _ _ _ _ _ _ _ _ (St11111010.out _ g73 o75 c75 g81 o82 c82 _ g87 HN.out)
            simp only [List.setIfInBounds_toArray, List.set_cons_zero, List.set_cons_succ] at h
            exact h
        have St11110000 : Hid (∀ (W : World) (g73 : Nat) (o75 : Option Addr) (c75 : Nat) (g81 : Nat) (o82 : Option Addr) (c82 : Nat), Rows w8 W [(.slice o82 N1 c82, fr ++ [xa])] → G 7 #[true, true, true, true, true, true, true, true, true, true, true, true, true, true, true, true, false, true, false, true, false, false, true, false, false, false] (.slice (some ⟨g73, 0, none⟩) 0 0) (.slice o75 NF c75) (.slice (some ⟨g81, 0, none⟩) 1 1) (.slice o82 N1 c82) undef undef undef undef W) := by
          refine Lib.hid ?_
          intro W g73 o75 c75 g81 o82 c82 HR0
          have HR := Lib.hid HR0
          clear HR0
          refine HIN.out _ _ _ _ _ _ _ _ _ _ _ ?_
          simp only [List.setIfInBounds_toArray, List.set_cons_zero, List.set_cons_succ]
          refine wpAnyH_ready (rs := [16, 20]) (by kernel_rfl) (by simp) ?_
          refine (AllReadyH.cons (by simp only [List.getElem?_toArray, List.getElem?_cons_zero, List.getElem?_cons_succ]; rfl) (fun K hK => ?_) (AllReadyH.cons (by simp only [List.getElem?_toArray, List.getElem?_cons_zero, List.getElem?_cons_succ]; rfl) (fun K hK => ?_) AllReadyH.nil))
          · have HN0 : Rows w8 (W.alloc (.cells #[] 9)) ((.slice (some ⟨W.heap.size, 0, none⟩) 0 0, []) :: ([(.slice o82 N1 c82, fr ++ [xa])] ++ [])) := HR.out.alloc _ (SRow.empty W HR.out.bel.size) rfl
            have HN : Hid (Rows w8 (W.alloc (.cells #[] 9)) [(.slice o82 N1 c82, fr ++ [xa]), (.slice (some ⟨W.heap.size, 0, none⟩) 0 0, [])]) := HN0.back
            clear HN0
            go_simp
            refine hK.out _ _ ?_ (fun hHeld => ?_)
            · (try dsimp only); exact HS11.out _ HN.out.bel
            clear hK K hHeld
            (try simp only [List.setIfInBounds_toArray, List.set_cons_zero, List.set_cons_succ])
            have h := HOUT.out _ _ _ _ _ _ _ _ _ _ _ (St11111000.out _ g73 o75 c75 g81 o82 c82 _ HN.out)
            simp only [List.setIfInBounds_toArray, List.set_cons_zero, List.set_cons_succ] at h
            exact h
          · have HN0 : Rows w8 (W.alloc (.cells #[.string nm] 9)) ((.slice (some ⟨W.heap.size, 0, none⟩) 1 1, [nm]) :: ([(.slice o82 N1 c82, fr ++ [xa])] ++ [])) := HR.out.alloc _ (SRow.one W nm HR.out.bel.size) rfl
            have HN : Hid (Rows w8 (W.alloc (.cells #[.string nm] 9)) [(.slice o82 N1 c82, fr ++ [xa]), (.slice (some ⟨W.heap.size, 0, none⟩) 1 1, [nm])]) := HN0.back
            clear HN0
            go_simp
            refine hK.out _ _ ?_ (fun hHeld => ?_)
            · (try dsimp only); exact HS11.out _ HN.out.bel
            clear hK K hHeld
            (try simp only [List.setIfInBounds_toArray, List.set_cons_zero, List.set_cons_succ])
            have h := HOUT.out _ _ _ _ _ _ _ _ _ _ _ (St11110010.out _ g73 o75 c75 g81 o82 c82 _ HN.out)
            simp only [List.setIfInBounds_toArray, List.set_cons_zero, List.set_cons_succ] at h
            exact h
        have St11101010 : Hid (∀ (W : World) (g73 : Nat) (o75 : Option Addr) (c75 : Nat) (g81 : Nat) (g83 : Nat) (g87 : Nat), Rows w8 W [(.slice o75 NF c75, fr), (.slice (some ⟨g81, 0, none⟩) 1 1, [xa]), (.slice (some ⟨g83, 0, none⟩) 0 0, []), (.slice (some ⟨g87, 0, none⟩) 1 1, [nm])] → G 6 #[true, true, true, true, true, true, true, true, true, true, true, true, true, true, true, false, true, true, false, true, true, false, true, false, false, false] (.slice (some ⟨g73, 0, none⟩) 0 0) (.slice o75 NF c75) (.slice (some ⟨g81, 0, none⟩) 1 1) undef (.slice (some ⟨g83, 0, none⟩) 0 0) undef (.slice (some ⟨g87, 0, none⟩) 1 1) undef W) := by
          refine Lib.hid ?_
          intro W g73 o75 c75 g81 g83 g87 HR0
          have HR := Lib.hid HR0
          clear HR0
          refine HIN.out _ _ _ _ _ _ _ _ _ _ _ ?_
          simp only [List.setIfInBounds_toArray, List.set_cons_zero, List.set_cons_succ]
          refine wpAnyH_ready (rs := [15]) (by kernel_rfl) (by simp) ?_
          refine (AllReadyH.cons (by simp only [List.getElem?_toArray, List.getElem?_cons_zero, List.getElem?_cons_succ]; rfl) (fun K hK => ?_) AllReadyH.nil)
          · have HF : Hid (Rows w8 W ((.slice o75 NF c75, fr) :: ([] ++ [(.slice (some ⟨g81, 0, none⟩) 1 1, [xa]), (.slice (some ⟨g83, 0, none⟩) 0 0, []), (.slice (some ⟨g87, 0, none⟩) 1 1, [nm])]))) := Rows.front (A := []) (B := [(.slice (some ⟨g81, 0, none⟩) 1 1, [xa]), (.slice (some ⟨g83, 0, none⟩) 0 0, []), (.slice (some ⟨g87, 0, none⟩) 1 1, [nm])]) HR.out
            have HQ : Hid (Strs W (some ⟨g81, 0, none⟩) 1 [xa]) := (HF.out.row (.slice (some ⟨g81, 0, none⟩) 1 1, [xa]) (List.mem_cons_of_mem _ (List.mem_cons_self ..))).read
            refine step_append_at (by rfl) (.tmp 75) (.tmp 81) (by rfl) w8.heap.size (.slice o75 NF c75) (by rfl) (fr) (some ⟨g81, 0, none⟩) 1 1 (by rfl) [xa] N1 HN1.out (HF.out.row _ (List.mem_cons_self ..)) (HQ.out) hN10 HR.out.bel.size ?_
            intro o' c' w' hv hg ho
            have HN0 : Rows w8 w' ((.slice o' N1 c', fr ++ [xa]) :: ([] ++ [(.slice (some ⟨g81, 0, none⟩) 1 1, [xa]), (.slice (some ⟨g83, 0, none⟩) 0 0, []), (.slice (some ⟨g87, 0, none⟩) 1 1, [nm])])) := HF.out.append hg hv ho
            have HN1 : Rows w8 w' [(.slice o' N1 c', fr ++ [xa]), (.slice (some ⟨g81, 0, none⟩) 1 1, [xa]), (.slice (some ⟨g83, 0, none⟩) 0 0, []), (.slice (some ⟨g87, 0, none⟩) 1 1, [nm])] := Rows.back (A := []) (B := [(.slice (some ⟨g81, 0, none⟩) 1 1, [xa]), (.slice (some ⟨g83, 0, none⟩) 0 0, []), (.slice (some ⟨g87, 0, none⟩) 1 1, [nm])]) HN0
            have HN2 : Rows w8 w' [(.slice o' N1 c', fr ++ [xa]), (.slice (some ⟨g83, 0, none⟩) 0 0, []), (.slice (some ⟨g87, 0, none⟩) 1 1, [nm])] := Rows.drop (A := [(.slice o' N1 c', fr ++ [xa])]) (B := [(.slice (some ⟨g83, 0, none⟩) 0 0, []), (.slice (some ⟨g87, 0, none⟩) 1 1, [nm])]) HN1
            have HN := Lib.hid HN2
            clear HN0 HN1 HN2 hv hg ho
            refine hK.out _ _ ?_ (fun hHeld => ?_)
            · (try dsimp only); exact HS11.out _ HN.out.bel
            clear hK K hHeld
            (try simp only [Act.put, List.setIfInBounds_toArray, List.set_cons_zero, List.set_cons_succ])
            have h := HOUT.out _ _ _ _ _ _ _ _ _ _ _ (St11111010.out _ g73 o75 c75 g81 o' c' g83 g87 HN.out)
            simp only [List.setIfInBounds_toArray, List.set_cons_zero, List.set_cons_succ] at h
            exact h
        have St11101000 : Hid (∀ (W : World) (g73 : Nat) (o75 : Option Addr) (c75 : Nat) (g81 : Nat) (g83 : Nat), Rows w8 W [(.slice o75 NF c75, fr), (.slice (some ⟨g81, 0, none⟩) 1 1, [xa]), (.slice (some ⟨g83, 0, none⟩) 0 0, [])] → G 7 #[true, true, true, true, true, true, true, true, true, true, true, true, true, true, true, false, true, true, false, true, false, false, true, false, false, false] (.slice (some ⟨g73, 0, none⟩) 0 0) (.slice o75 NF c75) (.slice (some ⟨g81, 0, none⟩) 1 1) undef (.slice (some ⟨g83, 0, none⟩) 0 0) undef undef undef W) := by
          refine Lib.hid ?_
          intro W g73 o75 c75 g81 g83 HR0
          have HR := Lib.hid HR0
          clear HR0
          refine HIN.out _ _ _ _ _ _ _ _ _ _ _ ?_
          simp only [List.setIfInBounds_toArray, List.set_cons_zero, List.set_cons_succ]
          refine wpAnyH_ready (rs := [15, 20]) (by kernel_rfl) (by simp) ?_
          refine (AllReadyH.cons (by simp only [List.getElem?_toArray, List.getElem?_cons_zero, List.getElem?_cons_succ]; rfl) (fun K hK => ?_) (AllReadyH.cons (by simp only [List.getElem?_toArray, List.getElem?_cons_zero, List.getElem?_cons_succ]; rfl) (fun K hK => ?_) AllReadyH.nil))
          · have HF : Hid (Rows w8 W ((.slice o75 NF c75, fr) :: ([] ++ [(.slice (some ⟨g81, 0, none⟩) 1 1, [xa]), (.slice (some ⟨g83, 0, none⟩) 0 0, [])]))) := Rows.front (A := []) (B := [(.slice (some ⟨g81, 0, none⟩) 1 1, [xa]), (.slice (some ⟨g83, 0, none⟩) 0 0, [])]) HR.out
            have HQ : Hid (Strs W (some ⟨g81, 0, none⟩) 1 [xa]) := (HF.out.row (.slice (some ⟨g81, 0, none⟩) 1 1, [xa]) (List.mem_cons_of_mem _ (List.mem_cons_self ..))).read
            refine step_append_at (by rfl) (.tmp 75) (.tmp 81) (by rfl) w8.heap.size (.slice o75 NF c75) (by rfl) (fr) (some ⟨g81, 0, none⟩) 1 1 (by rfl) [xa] N1 HN1.out (HF.out.row _ (List.mem_cons_self ..)) (HQ.out) hN10 HR.out.bel.size ?_
            intro o' c' w' hv hg ho
            have HN0 : Rows w8 w' ((.slice o' N1 c', fr ++ [xa]) :: ([] ++ [(.slice (some ⟨g81, 0, none⟩) 1 1, [xa]), (.slice (some ⟨g83, 0, none⟩) 0 0, [])])) := HF.out.append hg hv ho
            have HN1 : Rows w8 w' [(.slice o' N1 c', fr ++ [xa]), (.slice (some ⟨g81, 0, none⟩) 1 1, [xa]), (.slice (some ⟨g83, 0, none⟩) 0 0, [])] := Rows.back (A := []) (B := [(.slice (some ⟨g81, 0, none⟩) 1 1, [xa]), (.slice (some ⟨g83, 0, none⟩) 0 0, [])]) HN0
            have HN2 : Rows w8 w' [(.slice o' N1 c', fr ++ [xa]), (.slice (some ⟨g83, 0, none⟩) 0 0, [])] := Rows.drop (A := [(.slice o' N1 c', fr ++ [xa])]) (B := [(.slice (some ⟨g83, 0, none⟩) 0 0, [])]) HN1
            have HN := Lib.hid HN2
            clear HN0 HN1 HN2 hv hg ho
            refine hK.out _ _ ?_ (fun hHeld => ?_)
            · (try dsimp only); exact HS11.out _ HN.out.bel
            clear hK K hHeld
            (try simp only [Act.put, List.setIfInBounds_toArray, List.set_cons_zero, List.set_cons_succ])
            have h := HOUT.out _ _ _ _ _ _ _ _ _ _ _ (St11111000.out _ g73 o75 c75 g81 o' c' g83 HN.out)
            simp only [List.setIfInBounds_toArray, List.set_cons_zero, List.set_cons_succ] at h
            exact h
          · have HN0 : Rows w8 (W.alloc (.cells #[.string nm] 9)) ((.slice (some ⟨W.heap.size, 0, none⟩) 1 1, [nm]) :: ([(.slice o75 NF c75, fr), (.slice (some ⟨g81, 0, none⟩) 1 1, [xa]), (.slice (some ⟨g83, 0, none⟩) 0 0, [])] ++ [])) := HR.out.alloc _ (SRow.one W nm HR.out.bel.size) rfl
            have HN : Hid (Rows w8 (W.alloc (.cells #[.string nm] 9)) [(.slice o75 NF c75, fr), (.slice (some ⟨g81, 0, none⟩) 1 1, [xa]), (.slice (some ⟨g83, 0, none⟩) 0 0, []), (.slice (some ⟨W.heap.size, 0, none⟩) 1 1, [nm])]) := HN0.back
            clear HN0
            go_simp
            refine hK.out _ _ ?_ (fun hHeld => ?_)
            · (try dsimp only); exact HS11.out _ HN.out.bel
            clear hK K hHeld
            (try simp only [List.setIfInBounds_toArray, List.set_cons_zero, List.set_cons_succ])
            have h := HOUT.out _ _ _ _ _ _ _ _ _ _ _ (St11101010.out _ g73 o75 c75 g81 g83 _ HN.out)
            simp only [List.setIfInBounds_toArray, List.set_cons_zero, List.set_cons_succ] at h
            exact h
        have St11100010 : Hid (∀ (W : World) (g73 : Nat) (o75 : Option Addr) (c75 : Nat) (g81 : Nat) (g87 : Nat), Rows w8 W [(.slice o75 NF c75, fr), (.slice (some ⟨g81, 0, none⟩) 1 1, [xa]), (.slice (some ⟨g87, 0, none⟩) 1 1, [nm])] → G 7 #[true, true, true, true, true, true, true, true, true, true, true, true, true, true, true, false, false, true, false, true, true, false, true, false, false, false] (.slice (some ⟨g73, 0, none⟩) 0 0) (.slice o75 NF c75) (.slice (some ⟨g81, 0, none⟩) 1 1) undef undef undef (.slice (some ⟨g87, 0, none⟩) 1 1) undef W) := by
          refine Lib.hid ?_
          intro W g73 o75 c75 g81 g87 HR0
          have HR := Lib.hid HR0
          clear HR0
          refine HIN.out _ _ _ _ _ _ _ _ _ _ _ ?_
          simp only [List.setIfInBounds_toArray, List.set_cons_zero, List.set_cons_succ]
          refine wpAnyH_ready (rs := [15, 16]) (by kernel_rfl) (by simp) ?_
          refine (AllReadyH.cons (by simp only [List.getElem?_toArray, List.getElem?_cons_zero, List.getElem?_cons_succ]; rfl) (fun K hK => ?_) (AllReadyH.cons (by simp only [List.getElem?_toArray, List.getElem?_cons_zero, List.getElem?_cons_succ]; rfl) (fun K hK => ?_) AllReadyH.nil))
          · have HF : Hid (Rows w8 W ((.slice o75 NF c75, fr) :: ([] ++ [(.slice (some ⟨g81, 0, none⟩) 1 1, [xa]), (.slice (some ⟨g87, 0, none⟩) 1 1, [nm])]))) := Rows.front (A := []) (B := [(.slice (some ⟨g81, 0, none⟩) 1 1, [xa]), (.slice (some ⟨g87, 0, none⟩) 1 1, [nm])]) HR.out
            have HQ : Hid (Strs W (some ⟨g81, 0, none⟩) 1 [xa]) := (HF.out.row (.slice (some ⟨g81, 0, none⟩) 1 1, [xa]) (List.mem_cons_of_mem _ (List.mem_cons_self ..))).read
            refine step_append_at (by rfl) (.tmp 75) (.tmp 81) (by rfl) w8.heap.size (.slice o75 NF c75) (by rfl) (fr) (some ⟨g81, 0, none⟩) 1 1 (by rfl) [xa] N1 HN1.out (HF.out.row _ (List.mem_cons_self ..)) (HQ.out) hN10 HR.out.bel.size ?_
            intro o' c' w' hv hg ho
            have HN0 : Rows w8 w' ((.slice o' N1 c', fr ++ [xa]) :: ([] ++ [(.slice (some ⟨g81, 0, none⟩) 1 1, [xa]), (.slice (some ⟨g87, 0, none⟩) 1 1, [nm])])) := HF.out.append hg hv ho
            have HN1 : Rows w8 w' [(.slice o' N1 c', fr ++ [xa]), (.slice (some ⟨g81, 0, none⟩) 1 1, [xa]), (.slice (some ⟨g87, 0, none⟩) 1 1, [nm])] := Rows.back (A := []) (B := [(.slice (some ⟨g81, 0, none⟩) 1 1, [xa]), (.slice (some ⟨g87, 0, none⟩) 1 1, [nm])]) HN0
            have HN2 : Rows w8 w' [(.slice o' N1 c', fr ++ [xa]), (.slice (some ⟨g87, 0, none⟩) 1 1, [nm])] := Rows.drop (A := [(.slice o' N1 c', fr ++ [xa])]) (B := [(.slice (some ⟨g87, 0, none⟩) 1 1, [nm])]) HN1
            have HN := Lib.hid HN2
            clear HN0 HN1 HN2 hv hg ho
            refine hK.out _ _ ?_ (fun hHeld => ?_)
            · (try dsimp only); exact HS11.out _ HN.out.bel
            clear hK K hHeld
            (try simp only [Act.put, List.setIfInBounds_toArray, List.set_cons_zero, List.set_cons_succ])
            have h := HOUT.out _ _ _ _ _ _ _ _ _ _ _ (St11110010.out _ g73 o75 c75 g81 o' c' g87 HN.out)
            simp only [List.setIfInBounds_toArray, List.set_cons_zero, List.set_cons_succ] at h
            exact h
          · have HN0 : Rows w8 (W.alloc (.cells #[] 9)) ((.slice (some ⟨W.heap.size, 0, none⟩) 0 0, []) :: ([(.slice o75 NF c75, fr), (.slice (some ⟨g81, 0, none⟩) 1 1, [xa])] ++ [(.slice (some ⟨g87, 0, none⟩) 1 1, [nm])])) := HR.out.alloc _ (SRow.empty W HR.out.bel.size) rfl
            have HN : Hid (Rows w8 (W.alloc (.cells #[] 9)) [(.slice o75 NF c75, fr), (.slice (some ⟨g81, 0, none⟩) 1 1, [xa]), (.slice (some ⟨W.heap.size, 0, none⟩) 0 0, []), (.slice (some ⟨g87, 0, none⟩) 1 1, [nm])]) := HN0.back
            clear HN0
            go_simp
            refine hK.out _ _ ?_ (fun hHeld => ?_)
            · (try dsimp only); exact HS11.out _ HN.out.bel
            clear hK K hHeld
            (try simp only [List.setIfInBounds_toArray, List.set_cons_zero, List.set_cons_succ])
            have h := HOUT.out _ _ _ _ _ _ _ _ _ _ _ (St11101010.out _ g73 o75 c75 g81 _ g87 HN.out)
            simp only [List.setIfInBounds_toArray, List.set_cons_zero, List.set_cons_succ] at h
            exact h
        have St11100000 : Hid (∀ (W : World) (g73 : Nat) (o75 : Option Addr) (c75 : Nat) (g81 : Nat), Rows w8 W [(.slice o75 NF c75, fr), (.slice (some ⟨g81, 0, none⟩) 1 1, [xa])] → G 8 #[true, true, true, true, true, true, true, true, true, true, true, true, true, true, true, false, false, true, false, true, false, false, true, false, false, false] (.slice (some ⟨g73, 0, none⟩) 0 0) (.slice o75 NF c75) (.slice (some ⟨g81, 0, none⟩) 1 1) undef undef undef undef undef W) := by
          refine Lib.hid ?_
          intro W g73 o75 c75 g81 HR0
          have HR := Lib.hid HR0
          clear HR0
          refine HIN.out _ _ _ _ _ _ _ _ _ _ _ ?_
          simp only [List.setIfInBounds_toArray, List.set_cons_zero, List.set_cons_succ]
          refine wpAnyH_ready (rs := [15, 16, 20]) (by kernel_rfl) (by simp) ?_
          refine (AllReadyH.cons (by simp only [List.getElem?_toArray, List.getElem?_cons_zero, List.getElem?_cons_succ]; rfl) (fun K hK => ?_) (AllReadyH.cons (by simp only [List.getElem?_toArray, List.getElem?_cons_zero, List.getElem?_cons_succ]; rfl) (fun K hK => ?_) (AllReadyH.cons (by simp only [List.getElem?_toArray, List.getElem?_cons_zero, List.getElem?_cons_succ]; rfl) (fun K hK => ?_) AllReadyH.nil)))
          · have HF : Hid (Rows w8 W ((.slice o75 NF c75, fr) :: ([] ++ [(.slice (some ⟨g81, 0, none⟩) 1 1, [xa])]))) := Rows.front (A := []) (B := [(.slice (some ⟨g81, 0, none⟩) 1 1, [xa])]) HR.out
            have HQ : Hid (Strs W (some ⟨g81, 0, none⟩) 1 [xa]) := (HF.out.row (.slice (some ⟨g81, 0, none⟩) 1 1, [xa]) (List.mem_cons_of_mem _ (List.mem_cons_self ..))).read
            refine step_append_at (by rfl) (.tmp 75) (.tmp 81) (by rfl) w8.heap.size (.slice o75 NF c75) (by rfl) (fr) (some ⟨g81, 0, none⟩) 1 1 (by rfl) [xa] N1 HN1.out (HF.out.row _ (List.mem_cons_self ..)) (HQ.out) hN10 HR.out.bel.size ?_
            intro o' c' w' hv hg ho
            have HN0 : Rows w8 w' ((.slice o' N1 c', fr ++ [xa]) :: ([] ++ [(.slice (some ⟨g81, 0, none⟩) 1 1, [xa])])) := HF.out.append hg hv ho
            have HN1 : Rows w8 w' [(.slice o' N1 c', fr ++ [xa]), (.slice (some ⟨g81, 0, none⟩) 1 1, [xa])] := Rows.back (A := []) (B := [(.slice (some ⟨g81, 0, none⟩) 1 1, [xa])]) HN0
            have HN2 : Rows w8 w' [(.slice o' N1 c', fr ++ [xa])] := Rows.drop (A := [(.slice o' N1 c', fr ++ [xa])]) (B := []) HN1
            have HN := Lib.hid HN2
            clear HN0 HN1 HN2 hv hg ho
            refine hK.out _ _ ?_ (fun hHeld => ?_)
            · (try dsimp only); exact HS11.out _ HN.out.bel
            clear hK K hHeld
            (try simp only [Act.put, List.setIfInBounds_toArray, List.set_cons_zero, List.set_cons_succ])
            have h := HOUT.out _ _ _ _ _ _ _ _ _ _ _ (St11110000.out _ g73 o75 c75 g81 o' c' HN.out)
            simp only [List.setIfInBounds_toArray, List.set_cons_zero, List.set_cons_succ] at h
            exact h
          · have HN0 : Rows w8 (W.alloc (.cells #[] 9)) ((.slice (some ⟨W.heap.size, 0, none⟩) 0 0, []) :: ([(.slice o75 NF c75, fr), (.slice (some ⟨g81, 0, none⟩) 1 1, [xa])] ++ [])) := HR.out.alloc _ (SRow.empty W HR.out.bel.size) rfl
            have HN : Hid (Rows w8 (W.alloc (.cells #[] 9)) [(.slice o75 NF c75, fr), (.slice (some ⟨g81, 0, none⟩) 1 1, [xa]), (.slice (some ⟨W.heap.size, 0, none⟩) 0 0, [])]) := HN0.back
            clear HN0
            go_simp
            refine hK.out _ _ ?_ (fun hHeld => ?_)
            · (try dsimp only); exact HS11.out _ HN.out.bel
            clear hK K hHeld
            (try simp only [List.setIfInBounds_toArray, List.set_cons_zero, List.set_cons_succ])
            have h := HOUT.out _ _ _ _ _ _ _ _ _ _ _ (St11101000.out _ g73 o75 c75 g81 _ HN.out)
            simp only [List.setIfInBounds_toArray, List.set_cons_zero, List.set_cons_succ] at h
            exact h
          · have HN0 : Rows w8 (W.alloc (.cells #[.string nm] 9)) ((.slice (some ⟨W.heap.size, 0, none⟩) 1 1, [nm]) :: ([(.slice o75 NF c75, fr), (.slice (some ⟨g81, 0, none⟩) 1 1, [xa])] ++ [])) := HR.out.alloc _ (SRow.one W nm HR.out.bel.size) rfl
            have HN : Hid (Rows w8 (W.alloc (.cells #[.string nm] 9)) [(.slice o75 NF c75, fr), (.slice (some ⟨g81, 0, none⟩) 1 1, [xa]), (.slice (some ⟨W.heap.size, 0, none⟩) 1 1, [nm])]) := HN0.back
            clear HN0
            go_simp
            refine hK.out _ _ ?_ (fun hHeld => ?_)
            · (try dsimp only); exact HS11.out _ HN.out.bel
            clear hK K hHeld
            (try simp only [List.setIfInBounds_toArray, List.set_cons_zero, List.set_cons_succ])
            have h := HOUT.out _ _ _ _ _ _ _ _ _ _ _ (St11100010.out _ g73 o75 c75 g81 _ HN.out)
            simp only [List.setIfInBounds_toArray, List.set_cons_zero, List.set_cons_succ] at h
            exact h
        have St11001010 : Hid (∀ (W : World) (g73 : Nat) (o75 : Option Addr) (c75 : Nat) (g83 : Nat) (g87 : Nat), Rows w8 W [(.slice o75 NF c75, fr), (.slice (some ⟨g83, 0, none⟩) 0 0, []), (.slice (some ⟨g87, 0, none⟩) 1 1, [nm])] → G 7 #[true, true, true, true, true, true, true, true, true, true, true, true, true, true, false, false, true, true, false, true, true, false, true, false, false, false] (.slice (some ⟨g73, 0, none⟩) 0 0) (.slice o75 NF c75) undef undef (.slice (some ⟨g83, 0, none⟩) 0 0) undef (.slice (some ⟨g87, 0, none⟩) 1 1) undef W) := by
          refine Lib.hid ?_
          intro W g73 o75 c75 g83 g87 HR0
          have HR := Lib.hid HR0
          clear HR0
          refine HIN.out _ _ _ _ _ _ _ _ _ _ _ ?_
          simp only [List.setIfInBounds_toArray, List.set_cons_zero, List.set_cons_succ]
          refine wpAnyH_ready (rs := [14]) (by kernel_rfl) (by simp) ?_
          refine (AllReadyH.cons (by simp only [List.getElem?_toArray, List.getElem?_cons_zero, List.getElem?_cons_succ]; rfl) (fun K hK => ?_) AllReadyH.nil)
          · have HN0 : Rows w8 (W.alloc (.cells #[.string xa] 9)) ((.slice (some ⟨W.heap.size, 0, none⟩) 1 1, [xa]) :: ([(.slice o75 NF c75, fr)] ++ [(.slice (some ⟨g83, 0, none⟩) 0 0, []), (.slice (some ⟨g87, 0, none⟩) 1 1, [nm])])) := HR.out.alloc _ (SRow.one W xa HR.out.bel.size) rfl
            have HN : Hid (Rows w8 (W.alloc (.cells #[.string xa] 9)) [(.slice o75 NF c75, fr), (.slice (some ⟨W.heap.size, 0, none⟩) 1 1, [xa]), (.slice (some ⟨g83, 0, none⟩) 0 0, []), (.slice (some ⟨g87, 0, none⟩) 1 1, [nm])]) := HN0.back
            clear HN0
            go_simp
            refine hK.out _ _ ?_ (fun hHeld => ?_)
            · (try dsimp only); exact HS11.out _ HN.out.bel
            clear hK K hHeld
            (try simp only [List.setIfInBounds_toArray, List.set_cons_zero, List.set_cons_succ])
            have h := HOUT.out _ _ _ _ _ _ _ _ _ _ _ (St11101010.out _ g73 o75 c75 _ g83 g87 HN.out)
            simp only [List.setIfInBounds_toArray, List.set_cons_zero, List.set_cons_succ] at h
            exact h
        have St11001000 : Hid (∀ (W : World) (g73 : Nat) (o75 : Option Addr) (c75 : Nat) (g83 : Nat), Rows w8 W [(.slice o75 NF c75, fr), (.slice (some ⟨g83, 0, none⟩) 0 0, [])] → G 8 #[true, true, true, true, true, true, true, true, true, true, true, true, true, true, false, false, true, true, false, true, false, false, true, false, false, false] (.slice (some ⟨g73, 0, none⟩) 0 0) (.slice o75 NF c75) undef undef (.slice (some ⟨g83, 0, none⟩) 0 0) undef undef undef W) := by
          refine Lib.hid ?_
          intro W g73 o75 c75 g83 HR0
          have HR := Lib.hid HR0
          clear HR0
          refine HIN.out _ _ _ _ _ _ _ _ _ _ _ ?_
          simp only [List.setIfInBounds_toArray, List.set_cons_zero, List.set_cons_succ]
          refine wpAnyH_ready (rs := [14, 20]) (by kernel_rfl) (by simp) ?_
          refine (AllReadyH.cons (by simp only [List.getElem?_toArray, List.getElem?_cons_zero, List.getElem?_cons_succ]; rfl) (fun K hK => ?_) (AllReadyH.cons (by simp only [List.getElem?_toArray, List.getElem?_cons_zero, List.getElem?_cons_succ]; rfl) (fun K hK => ?_) AllReadyH.nil))
          · have HN0 : Rows w8 (W.alloc (.cells #[.string xa] 9)) ((.slice (some ⟨W.heap.size, 0, none⟩) 1 1, [xa]) :: ([(.slice o75 NF c75, fr)] ++ [(.slice (some ⟨g83, 0, none⟩) 0 0, [])])) := HR.out.alloc _ (SRow.one W xa HR.out.bel.size) rfl
            have HN : Hid (Rows w8 (W.alloc (.cells #[.string xa] 9)) [(.slice o75 NF c75, fr), (.slice (some ⟨W.heap.size, 0, none⟩) 1 1, [xa]), (.slice (some ⟨g83, 0, none⟩) 0 0, [])]) := HN0.back
            clear HN0
            go_simp
            refine hK.out _ _ ?_ (fun hHeld => ?_)
            · (try dsimp only); exact HS11.out _ HN.out.bel
            clear hK K hHeld
            (try simp only [List.setIfInBounds_toArray, List.set_cons_zero, List.set_cons_succ])
            have h := HOUT.out _ _ _ _ _ _ _ _ _ _ _ (St11101000.out _ g73 o75 c75 _ g83 HN.out)
            simp only [List.setIfInBounds_toArray, List.set_cons_zero, List.set_cons_succ] at h
            exact h
          · have HN0 : Rows w8 (W.alloc (.cells #[.string nm] 9)) ((.slice (some ⟨W.heap.size, 0, none⟩) 1 1, [nm]) :: ([(.slice o75 NF c75, fr), (.slice (some ⟨g83, 0, none⟩) 0 0, [])] ++ [])) := HR.out.alloc _ (SRow.one W nm HR.out.bel.size) rfl
            have HN : Hid (Rows w8 (W.alloc (.cells #[.string nm] 9)) [(.slice o75 NF c75, fr), (.slice (some ⟨g83, 0, none⟩) 0 0, []), (.slice (some ⟨W.heap.size, 0, none⟩) 1 1, [nm])]) := HN0.back
            clear HN0
            go_simp
            refine hK.out _ _ ?_ (fun hHeld => ?_)
            · (try dsimp only); exact HS11.out _ HN.out.bel
            clear hK K hHeld
            (try simp only [List.setIfInBounds_toArray, List.set_cons_zero, List.set_cons_succ])
            have h := HOUT.out _ _ _ _ _ _ _ _ _ _ _ (St11001010.out _ g73 o75 c75 g83 _ HN.out)
            simp only [List.setIfInBounds_toArray, List.set_cons_zero, List.set_cons_succ] at h
            exact h
        have St11000010 : Hid (∀ (W : World) (g73 : Nat) (o75 : Option Addr) (c75 : Nat) (g87 : Nat), Rows w8 W [(.slice o75 NF c75, fr), (.slice (some ⟨g87, 0, none⟩) 1 1, [nm])] → G 8 #[true, true, true, true, true, true, true, true, true, true, true, true, true, true, false, false, false, true, false, true, true, false, true, false, false, false] (.slice (some ⟨g73, 0, none⟩) 0 0) (.slice o75 NF c75) undef undef undef undef (.slice (some ⟨g87, 0, none⟩) 1 1) undef W) := by
          refine Lib.hid ?_
          intro W g73 o75 c75 g87 HR0
          have HR := Lib.hid HR0
          clear HR0
          refine HIN.out _ _ _ _ _ _ _ _ _ _ _ ?_
          simp only [List.setIfInBounds_toArray, List.set_cons_zero, List.set_cons_succ]
          refine wpAnyH_ready (rs := [14, 16]) (by kernel_rfl) (by simp) ?_
          refine (AllReadyH.cons (by simp only [List.getElem?_toArray, List.getElem?_cons_zero, List.getElem?_cons_succ]; rfl) (fun K hK => ?_) (AllReadyH.cons (by simp only [List.getElem?_toArray, List.getElem?_cons_zero, List.getElem?_cons_succ]; rfl) (fun K hK => ?_) AllReadyH.nil))
          · have HN0 : Rows w8 (W.alloc (.cells #[.string xa] 9)) ((.slice (some ⟨W.heap.size, 0, none⟩) 1 1, [xa]) :: ([(.slice o75 NF c75, fr)] ++ [(.slice (some ⟨g87, 0, none⟩) 1 1, [nm])])) := HR.out.alloc _ (SRow.one W xa HR.out.bel.size) rfl
            have HN : Hid (Rows w8 (W.alloc (.cells #[.string xa] 9)) [(.slice o75 NF c75, fr), (.slice (some ⟨W.heap.size, 0, none⟩) 1 1, [xa]), (.slice (some ⟨g87, 0, none⟩) 1 1, [nm])]) := HN0.back
            clear HN0
            go_simp
            refine hK.out _ _ ?_ (fun hHeld => ?_)
            · (try dsimp only); exact HS11.out _ HN.out.bel
            clear hK K hHeld
            (try simp only [List.setIfInBounds_toArray, List.set_cons_zero, List.set_cons_succ])
            have h := HOUT.out _ _ _ _ _ _ _ _ _ _ _ (St11100010.out _ g73 o75 c75 _ g87 HN.out)
            simp only [List.setIfInBounds_toArray, List.set_cons_zero, List.set_cons_succ] at h
            exact h
          · have HN0 : Rows w8 (W.alloc (.cells #[] 9)) ((.slice (some ⟨W.heap.size, 0, none⟩) 0 0, []) :: ([(.slice o75 NF c75, fr)] ++ [(.slice (some ⟨g87, 0, none⟩) 1 1, [nm])])) := HR.out.alloc _ (SRow.empty W HR.out.bel.size) rfl
            have HN : Hid (Rows w8 (W.alloc (.cells #[] 9)) [(.slice o75 NF c75, fr), (.slice (some ⟨W.heap.size, 0, none⟩) 0 0, []), (.slice (some ⟨g87, 0, none⟩) 1 1, [nm])]) := HN0.back
            clear HN0
            go_simp
            refine hK.out _ _ ?_ (fun hHeld => ?_)
            · (try dsimp only); exact HS11.out _ HN.out.bel
            clear hK K hHeld
            (try simp only [List.setIfInBounds_toArray, List.set_cons_zero, List.set_cons_succ])
            have h := HOUT.out _ _ _ _ _ _ _ _ _ _ _ (St11001010.out _ g73 o75 c75 _ g87 HN.out)
            simp only [List.setIfInBounds_toArray, List.set_cons_zero, List.set_cons_succ] at h
            exact h
        have St11000000 : Hid (∀ (W : World) (g73 : Nat) (o75 : Option Addr) (c75 : Nat), Rows w8 W [(.slice o75 NF c75, fr)] → G 9 #[true, true, true, true, true, true, true, true, true, true, true, true, true, true, false, false, false, true, false, true, false, false, true, false, false, false] (.slice (some ⟨g73, 0, none⟩) 0 0) (.slice o75 NF c75) undef undef undef undef undef undef W) := by
          refine Lib.hid ?_
          intro W g73 o75 c75 HR0
          have HR := Lib.hid HR0
          clear HR0
          refine HIN.out _ _ _ _ _ _ _ _ _ _ _ ?_
          simp only [List.setIfInBounds_toArray, List.set_cons_zero, List.set_cons_succ]
          refine wpAnyH_ready (rs := [14, 16, 20]) (by kernel_rfl) (by simp) ?_
          refine (AllReadyH.cons (by simp only [List.getElem?_toArray, List.getElem?_cons_zero, List.getElem?_cons_succ]; rfl) (fun K hK => ?_) (AllReadyH.cons (by simp only [List.getElem?_toArray, List.getElem?_cons_zero, List.getElem?_cons_succ]; rfl) (fun K hK => ?_) (AllReadyH.cons (by simp only [List.getElem?_toArray, List.getElem?_cons_zero, List.getElem?_cons_succ]; rfl) (fun K hK => ?_) AllReadyH.nil)))
          · have HN0 : Rows w8 (W.alloc (.cells #[.string xa] 9)) ((.slice (some ⟨W.heap.size, 0, none⟩) 1 1, [xa]) :: ([(.slice o75 NF c75, fr)] ++ [])) := HR.out.alloc _ (SRow.one W xa HR.out.bel.size) rfl
            have HN : Hid (Rows w8 (W.alloc (.cells #[.string xa] 9)) [(.slice o75 NF c75, fr), (.slice (some ⟨W.heap.size, 0, none⟩) 1 1, [xa])]) := HN0.back
            clear HN0
            go_simp
            refine hK.out _ _ ?_ (fun hHeld => ?_)
            · (try dsimp only); exact HS11.out _ HN.out.bel
            clear hK K hHeld
            (try simp only [List.setIfInBounds_toArray, List.set_cons_zero, List.set_cons_succ])
            have h := HOUT.out _ _ _ _ _ _ _ _ _ _ _ (St11100000.out _ g73 o75 c75 _ HN.out)
            simp only [List.setIfInBounds_toArray, List.set_cons_zero, List.set_cons_succ] at h
            exact h
          · have HN0 : Rows w8 (W.alloc (.cells #[] 9)) ((.slice (some ⟨W.heap.size, 0, none⟩) 0 0, []) :: ([(.slice o75 NF c75, fr)] ++ [])) := HR.out.alloc _ (SRow.empty W HR.out.bel.size) rfl
            have HN : Hid (Rows w8 (W.alloc (.cells #[] 9)) [(.slice o75 NF c75, fr), (.slice (some ⟨W.heap.size, 0, none⟩) 0 0, [])]) := HN0.back
            clear HN0
            go_simp
            refine hK.out _ _ ?_ (fun hHeld => ?_)
            · (try dsimp only); exact HS11.out _ HN.out.bel
            clear hK K hHeld
            (try simp only [List.setIfInBounds_toArray, List.set_cons_zero, List.set_cons_succ])
            have h := HOUT.out _ _ _ _ _ _ _ _ _ _ _ (St11001000.out _ g73 o75 c75 _ HN.out)
            simp only [List.setIfInBounds_toArray, List.set_cons_zero, List.set_cons_succ] at h
            exact h
          · have HN0 : Rows w8 (W.alloc (.cells #[.string nm] 9)) ((.slice (some ⟨W.heap.size, 0, none⟩) 1 1, [nm]) :: ([(.slice o75 NF c75, fr)] ++ [])) := HR.out.alloc _ (SRow.one W nm HR.out.bel.size) rfl
            have HN : Hid (Rows w8 (W.alloc (.cells #[.string nm] 9)) [(.slice o75 NF c75, fr), (.slice (some ⟨W.heap.size, 0, none⟩) 1 1, [nm])]) := HN0.back
            clear HN0
            go_simp
            refine hK.out _ _ ?_ (fun hHeld => ?_)
            · (try dsimp only); exact HS11.out _ HN.out.bel
            clear hK K hHeld
            (try simp only [List.setIfInBounds_toArray, List.set_cons_zero, List.set_cons_succ])
            have h := HOUT.out _ _ _ _ _ _ _ _ _ _ _ (St11000010.out _ g73 o75 c75 _ HN.out)
            simp only [List.setIfInBounds_toArray, List.set_cons_zero, List.set_cons_succ] at h
            exact h
        have St10101010 : Hid (∀ (W : World) (g73 : Nat) (g81 : Nat) (g83 : Nat) (g87 : Nat), Rows w8 W [(.slice (some ⟨g73, 0, none⟩) 0 0, []), (.slice (some ⟨g81, 0, none⟩) 1 1, [xa]), (.slice (some ⟨g83, 0, none⟩) 0 0, []), (.slice (some ⟨g87, 0, none⟩) 1 1, [nm])] → G 7 #[true, true, true, true, true, true, true, true, false, true, true, true, true, true, true, false, true, true, false, true, true, false, true, false, false, false] (.slice (some ⟨g73, 0, none⟩) 0 0) undef (.slice (some ⟨g81, 0, none⟩) 1 1) undef (.slice (some ⟨g83, 0, none⟩) 0 0) undef (.slice (some ⟨g87, 0, none⟩) 1 1) undef W) := by
          refine Lib.hid ?_
          intro W g73 g81 g83 g87 HR0
          have HR := Lib.hid HR0
          clear HR0
          refine HIN.out _ _ _ _ _ _ _ _ _ _ _ ?_
          simp only [List.setIfInBounds_toArray, List.set_cons_zero, List.set_cons_succ]
          refine wpAnyH_ready (rs := [8]) (by kernel_rfl) (by simp) ?_
          refine (AllReadyH.cons (by simp only [List.getElem?_toArray, List.getElem?_cons_zero, List.getElem?_cons_succ]; rfl) (fun K hK => ?_) AllReadyH.nil)
          · have HF : Hid (Rows w8 W ((.slice (some ⟨g73, 0, none⟩) 0 0, []) :: ([] ++ [(.slice (some ⟨g81, 0, none⟩) 1 1, [xa]), (.slice (some ⟨g83, 0, none⟩) 0 0, []), (.slice (some ⟨g87, 0, none⟩) 1 1, [nm])]))) := Rows.front (A := []) (B := [(.slice (some ⟨g81, 0, none⟩) 1 1, [xa]), (.slice (some ⟨g83, 0, none⟩) 0 0, []), (.slice (some ⟨g87, 0, none⟩) 1 1, [nm])]) HR.out
            refine step_append_at (by rfl) (.tmp 73) (.tmp 74) (by rfl) w8.heap.size (.slice (some ⟨g73, 0, none⟩) 0 0) (by rfl) ([]) o1 n1 c1 (by rfl) fr NF HNF.out (HF.out.row _ (List.mem_cons_self ..)) (HSF.out W HR.out.bel) hNF0 HR.out.bel.size ?_
            intro o' c' w' hv hg ho
            have HN0 : Rows w8 w' ((.slice o' NF c', fr) :: ([] ++ [(.slice (some ⟨g81, 0, none⟩) 1 1, [xa]), (.slice (some ⟨g83, 0, none⟩) 0 0, []), (.slice (some ⟨g87, 0, none⟩) 1 1, [nm])])) := HF.out.append hg hv ho
            have HN1 : Rows w8 w' [(.slice o' NF c', fr), (.slice (some ⟨g81, 0, none⟩) 1 1, [xa]), (.slice (some ⟨g83, 0, none⟩) 0 0, []), (.slice (some ⟨g87, 0, none⟩) 1 1, [nm])] := Rows.back (A := []) (B := [(.slice (some ⟨g81, 0, none⟩) 1 1, [xa]), (.slice (some ⟨g83, 0, none⟩) 0 0, []), (.slice (some ⟨g87, 0, none⟩) 1 1, [nm])]) HN0
            have HN := Lib.hid HN1
            clear HN0 HN1 hv hg ho
            refine hK.out _ _ ?_ (fun hHeld => ?_)
            · (try dsimp only); exact HS11.out _ HN.out.bel
            clear hK K hHeld
            (try simp only [Act.put, List.setIfInBounds_toArray, List.set_cons_zero, List.set_cons_succ])
            have h := HOUT.out _ _ _ _ _ _ _ _ _ _ _ (St11101010.out _ g73 o' c' g81 g83 g87 HN.out)
            simp only [List.setIfInBounds_toArray, List.set_cons_zero, List.set_cons_succ] at h
            exact h
        have St10101000 : Hid (∀ (W : World) (g73 : Nat) (g81 : Nat) (g83 : Nat), Rows w8 W [(.slice (some ⟨g73, 0, none⟩) 0 0, []), (.slice (some ⟨g81, 0, none⟩) 1 1, [xa]), (.slice (some ⟨g83, 0, none⟩) 0 0, [])] → G 8 #[true, true, true, true, true, true, true, true, false, true, true, true, true, true, true, false, true, true, false, true, false, false, true, false, false, false] (.slice (some ⟨g73, 0, none⟩) 0 0) undef (.slice (some ⟨g81, 0, none⟩) 1 1) undef (.slice (some ⟨g83, 0, none⟩) 0 0) undef undef undef W) := by
          refine Lib.hid ?_
          intro W g73 g81 g83 HR0
          have HR := Lib.hid HR0
          clear HR0
          refine HIN.out _ _ _ _ _ _ _ _ _ _ _ ?_
          simp only [List.setIfInBounds_toArray, List.set_cons_zero, List.set_cons_succ]
          refine wpAnyH_ready (rs := [8, 20]) (by kernel_rfl) (by simp) ?_
          refine (AllReadyH.cons (by simp only [List.getElem?_toArray, List.getElem?_cons_zero, List.getElem?_cons_succ]; rfl) (fun K hK => ?_) (AllReadyH.cons (by simp only [List.getElem?_toArray, List.getElem?_cons_zero, List.getElem?_cons_succ]; rfl) (fun K hK => ?_) AllReadyH.nil))
          · have HF : Hid (Rows w8 W ((.slice (some ⟨g73, 0, none⟩) 0 0, []) :: ([] ++ [(.slice (some ⟨g81, 0, none⟩) 1 1, [xa]), (.slice (some ⟨g83, 0, none⟩) 0 0, [])]))) := Rows.front (A := []) (B := [(.slice (some ⟨g81, 0, none⟩) 1 1, [xa]), (.slice (some ⟨g83, 0, none⟩) 0 0, [])]) HR.out
            refine step_append_at (by rfl) (.tmp 73) (.tmp 74) (by rfl) w8.heap.size (.slice (some ⟨g73, 0, none⟩) 0 0) (by rfl) ([]) o1 n1 c1 (by rfl) fr NF HNF.out (HF.out.row _ (List.mem_cons_self ..)) (HSF.out W HR.out.bel) hNF0 HR.out.bel.size ?_
            intro o' c' w' hv hg ho
            have HN0 : Rows w8 w' ((.slice o' NF c', fr) :: ([] ++ [(.slice (some ⟨g81, 0, none⟩) 1 1, [xa]), (.slice (some ⟨g83, 0, none⟩) 0 0, [])])) := HF.out.append hg hv ho
            have HN1 : Rows w8 w' [(.slice o' NF c', fr), (.slice (some ⟨g81, 0, none⟩) 1 1, [xa]), (.slice (some ⟨g83, 0, none⟩) 0 0, [])] := Rows.back (A := []) (B := [(.slice (some ⟨g81, 0, none⟩) 1 1, [xa]), (.slice (some ⟨g83, 0, none⟩) 0 0, [])]) HN0
            have HN := Lib.hid HN1
            clear HN0 HN1 hv hg ho
            refine hK.out _ _ ?_ (fun hHeld => ?_)
            · (try dsimp only); exact HS11.out _ HN.out.bel
            clear hK K hHeld
            (try simp only [Act.put, List.setIfInBounds_toArray, List.set_cons_zero, List.set_cons_succ])
            have h := HOUT.out _ _ _ _ _ _ _ _ _ _ _ (St11101000.out _ g73 o' c' g81 g83 HN.out)
            simp only [List.setIfInBounds_toArray, List.set_cons_zero, List.set_cons_succ] at h
            exact h
          · have HN0 : Rows w8 (W.alloc (.cells #[.string nm] 9)) ((.slice (some ⟨W.heap.size, 0, none⟩) 1 1, [nm]) :: ([(.slice (some ⟨g73, 0, none⟩) 0 0, []), (.slice (some ⟨g81, 0, none⟩) 1 1, [xa]), (.slice (some ⟨g83, 0, none⟩) 0 0, [])] ++ [])) := HR.out.alloc _ (SRow.one W nm HR.out.bel.size) rfl
            have HN : Hid (Rows w8 (W.alloc (.cells #[.string nm] 9)) [(.slice (some ⟨g73, 0, none⟩) 0 0, []), (.slice (some ⟨g81, 0, none⟩) 1 1, [xa]), (.slice (some ⟨g83, 0, none⟩) 0 0, []), (.slice (some ⟨W.heap.size, 0, none⟩) 1 1, [nm])]) := HN0.back
            clear HN0
            go_simp
            refine hK.out _ _ ?_ (fun hHeld => ?_)
            · (try dsimp only); exact HS11.out _ HN.out.bel
            clear hK K hHeld
            (try simp only [List.setIfInBounds_toArray, List.set_cons_zero, List.set_cons_succ])
            have h := HOUT.out _ _ _ _ _ _ _ _ _ _ _ (St10101010.out _ g73 g81 g83 _ HN.out)
            simp only [List.setIfInBounds_toArray, List.set_cons_zero, List.set_cons_succ] at h
            exact h
        have St10100010 : Hid (∀ (W : World) (g73 : Nat) (g81 : Nat) (g87 : Nat), Rows w8 W [(.slice (some ⟨g73, 0, none⟩) 0 0, []), (.slice (some ⟨g81, 0, none⟩) 1 1, [xa]), (.slice (some ⟨g87, 0, none⟩) 1 1, [nm])] → G 8 #[true, true, true, true, true, true, true, true, false, true, true, true, true, true, true, false, false, true, false, true, true, false, true, false, false, false] (.slice (some ⟨g73, 0, none⟩) 0 0) undef (.slice (some ⟨g81, 0, none⟩) 1 1) undef undef undef (.slice (some ⟨g87, 0, none⟩) 1 1) undef W) := by
          refine Lib.hid ?_
          intro W g73 g81 g87 HR0
          have HR := Lib.hid HR0
          clear HR0
          refine HIN.out _ _ _ _ _ _ _ _ _ _ _ ?_
          simp only [List.setIfInBounds_toArray, List.set_cons_zero, List.set_cons_succ]
          refine wpAnyH_ready (rs := [8, 16]) (by kernel_rfl) (by simp) ?_
          refine (AllReadyH.cons (by simp only [List.getElem?_toArray, List.getElem?_cons_zero, List.getElem?_cons_succ]; rfl) (fun K hK => ?_) (AllReadyH.cons (by simp only [List.getElem?_toArray, List.getElem?_cons_zero, List.getElem?_cons_succ]; rfl) (fun K hK => ?_) AllReadyH.nil))
          · have HF : Hid (Rows w8 W ((.slice (some ⟨g73, 0, none⟩) 0 0, []) :: ([] ++ [(.slice (some ⟨g81, 0, none⟩) 1 1, [xa]), (.slice (some ⟨g87, 0, none⟩) 1 1, [nm])]))) := Rows.front (A := []) (B := [(.slice (some ⟨g81, 0, none⟩) 1 1, [xa]), (.slice (some ⟨g87, 0, none⟩) 1 1, [nm])]) HR.out
            refine step_append_at (by rfl) (.tmp 73) (.tmp 74) (by rfl) w8.heap.size (.slice (some ⟨g73, 0, none⟩) 0 0) (by rfl) ([]) o1 n1 c1 (by rfl) fr NF HNF.out (HF.out.row _ (List.mem_cons_self ..)) (HSF.out W HR.out.bel) hNF0 HR.out.bel.size ?_
            intro o' c' w' hv hg ho
            have HN0 : Rows w8 w' ((.slice o' NF c', fr) :: ([] ++ [(.slice (some ⟨g81, 0, none⟩) 1 1, [xa]), (.slice (some ⟨g87, 0, none⟩) 1 1, [nm])])) := HF.out.append hg hv ho
            have HN1 : Rows w8 w' [(.slice o' NF c', fr), (.slice (some ⟨g81, 0, none⟩) 1 1, [xa]), (.slice (some ⟨g87, 0, none⟩) 1 1, [nm])] := Rows.back (A := []) (B := [(.slice (some ⟨g81, 0, none⟩) 1 1, [xa]), (.slice (some ⟨g87, 0, none⟩) 1 1, [nm])]) HN0
            have HN := Lib.hid HN1
            clear HN0 HN1 hv hg ho
            refine hK.out _ _ ?_ (fun hHeld => ?_)
            · (try dsimp only); exact HS11.out _ HN.out.bel
            clear hK K hHeld
            (try simp only [Act.put, List.setIfInBounds_toArray, List.set_cons_zero, List.set_cons_succ])
            have h := HOUT.out _ _ _ _ _ _ _ _ _ _ _ (St11100010.out _ g73 o' c' g81 g87 HN.out)
            simp only [List.setIfInBounds_toArray, List.set_cons_zero, List.set_cons_succ] at h
            exact h
          · have HN0 : Rows w8 (W.alloc (.cells #[] 9)) ((.slice (some ⟨W.heap.size, 0, none⟩) 0 0, []) :: ([(.slice (some ⟨g73, 0, none⟩) 0 0, []), (.slice (some ⟨g81, 0, none⟩) 1 1, [xa])] ++ [(.slice (some ⟨g87, 0, none⟩) 1 1, [nm])])) := HR.out.alloc _ (SRow.empty W HR.out.bel.size) rfl
            have HN : Hid (Rows w8 (W.alloc (.cells #[] 9)) [(.slice (some ⟨g73, 0, none⟩) 0 0, []), (.slice (some ⟨g81, 0, none⟩) 1 1, [xa]), (.slice (some ⟨W.heap.size, 0, none⟩) 0 0, []), (.slice (some ⟨g87, 0, none⟩) 1 1, [nm])]) := HN0.back
            clear HN0
            go_simp
            refine hK.out _ _ ?_ (fun hHeld => ?_)
            · (try dsimp only); exact HS11.out _ HN.out.bel
            clear hK K hHeld
            (try simp only [List.setIfInBounds_toArray, List.set_cons_zero, List.set_cons_succ])
            have h := HOUT.out _ _ _ _ _ _ _ _ _ _ _ (St10101010.out _ g73 g81 _ g87 HN.out)
            simp only [List.setIfInBounds_toArray, List.set_cons_zero, List.set_cons_succ] at h
            exact h
        have St10100000 : Hid (∀ (W : World) (g73 : Nat) (g81 : Nat), Rows w8 W [(.slice (some ⟨g73, 0, none⟩) 0 0, []), (.slice (some ⟨g81, 0, none⟩) 1 1, [xa])] → G 9 #[true, true, true, true, true, true, true, true, false, true, true, true, true, true, true, false, false, true, false, true, false, false, true, false, false, false] (.slice (some ⟨g73, 0, none⟩) 0 0) undef (.slice (some ⟨g81, 0, none⟩) 1 1) undef undef undef undef undef W) := by
          refine Lib.hid ?_
          intro W g73 g81 HR0
          have HR := Lib.hid HR0
          clear HR0
          refine HIN.out _ _ _ _ _ _ _ _ _ _ _ ?_
          simp only [List.setIfInBounds_toArray, List.set_cons_zero, List.set_cons_succ]
          refine wpAnyH_ready (rs := [8, 16, 20]) (by kernel_rfl) (by simp) ?_
          refine (AllReadyH.cons (by simp only [List.getElem?_toArray, List.getElem?_cons_zero, List.getElem?_cons_succ]; rfl) (fun K hK => ?_) (AllReadyH.cons (by simp only [List.getElem?_toArray, List.getElem?_cons_zero, List.getElem?_cons_succ]; rfl) (fun K hK => ?_) (AllReadyH.cons (by simp only [List.getElem?_toArray, List.getElem?_cons_zero, List.getElem?_cons_succ]; rfl) (fun K hK => ?_) AllReadyH.nil)))
          · have HF : Hid (Rows w8 W ((.slice (some ⟨g73, 0, none⟩) 0 0, []) :: ([] ++ [(.slice (some ⟨g81, 0, none⟩) 1 1, [xa])]))) := Rows.front (A := []) (B := [(.slice (some ⟨g81, 0, none⟩) 1 1, [xa])]) HR.out
            refine step_append_at (by rfl) (.tmp 73) (.tmp 74) (by rfl) w8.heap.size (.slice (some ⟨g73, 0, none⟩) 0 0) (by rfl) ([]) o1 n1 c1 (by rfl) fr NF HNF.out (HF.out.row _ (List.mem_cons_self ..)) (HSF.out W HR.out.bel) hNF0 HR.out.bel.size ?_
            intro o' c' w' hv hg ho
            have HN0 : Rows w8 w' ((.slice o' NF c', fr) :: ([] ++ [(.slice (some ⟨g81, 0, none⟩) 1 1, [xa])])) := HF.out.append hg hv ho
            have HN1 : Rows w8 w' [(.slice o' NF c', fr), (.slice (some ⟨g81, 0, none⟩) 1 1, [xa])] := Rows.back (A := []) (B := [(.slice (some ⟨g81, 0, none⟩) 1 1, [xa])]) HN0
            have HN := Lib.hid HN1
            clear HN0 HN1 hv hg ho
            refine hK.out _ _ ?_ (fun hHeld => ?_)
            · (try dsimp only); exact HS11.out _ HN.out.bel
            clear hK K hHeld
            (try simp only [Act.put, List.setIfInBounds_toArray, List.set_cons_zero, List.set_cons_succ])
            have h := HOUT.out _ _ _ _ _ _ _ _ _ _ _ (St11100000.out _ g73 o' c' g81 HN.out)
            simp only [List.setIfInBounds_toArray, List.set_cons_zero, List.set_cons_succ] at h
            exact h
          · have HN0 : Rows w8 (W.alloc (.cells #[] 9)) ((.slice (some ⟨W.heap.size, 0, none⟩) 0 0, []) :: ([(.slice (some ⟨g73, 0, none⟩) 0 0, []), (.slice (some ⟨g81, 0, none⟩) 1 1, [xa])] ++ [])) := HR.out.alloc _ (SRow.empty W HR.out.bel.size) rfl
            have HN : Hid (Rows w8 (W.alloc (.cells #[] 9)) [(.slice (some ⟨g73, 0, none⟩) 0 0, []), (.slice (some ⟨g81, 0, none⟩) 1 1, [xa]), (.slice (some ⟨W.heap.size, 0, none⟩) 0 0, [])]) := HN0.back
            clear HN0
            go_simp
            refine hK.out _ _ ?_ (fun hHeld => ?_)
            · (try dsimp only); exact HS11.out _ HN.out.bel
            clear hK K hHeld
            (try simp only [List.setIfInBounds_toArray, List.set_cons_zero, List.set_cons_succ])
            have h := HOUT.out _ _ _ _ _ _ _ _ _ _ _ (St10101000.out _ g73 g81 _ HN.out)
            simp only [List.setIfInBounds_toArray, List.set_cons_zero, List.set_cons_succ] at h
            exact h
          · have HN0 : Rows w8 (W.alloc (.cells #[.string nm] 9)) ((.slice (some ⟨W.heap.size, 0, none⟩) 1 1, [nm]) :: ([(.slice (some ⟨g73, 0, none⟩) 0 0, []), (.slice (some ⟨g81, 0, none⟩) 1 1, [xa])] ++ [])) := HR.out.alloc _ (SRow.one W nm HR.out.bel.size) rfl
            have HN : Hid (Rows w8 (W.alloc (.cells #[.string nm] 9)) [(.slice (some ⟨g73, 0, none⟩) 0 0, []), (.slice (some ⟨g81, 0, none⟩) 1 1, [xa]), (.slice (some ⟨W.heap.size, 0, none⟩) 1 1, [nm])]) := HN0.back
            clear HN0
            go_simp
            refine hK.out _ _ ?_ (fun hHeld => ?_)
            · (try dsimp only); exact HS11.out _ HN.out.bel
            clear hK K hHeld
            (try simp only [List.setIfInBounds_toArray, List.set_cons_zero, List.set_cons_succ])
            have h := HOUT.out _ _ _ _ _ _ _ _ _ _ _ (St10100010.out _ g73 g81 _ HN.out)
            simp only [List.setIfInBounds_toArray, List.set_cons_zero, List.set_cons_succ] at h
            exact h
        have St10001010 : Hid (∀ (W : World) (g73 : Nat) (g83 : Nat) (g87 : Nat), Rows w8 W [(.slice (some ⟨g73, 0, none⟩) 0 0, []), (.slice (some ⟨g83, 0, none⟩) 0 0, []), (.slice (some ⟨g87, 0, none⟩) 1 1, [nm])] → G 8 #[true, true, true, true, true, true, true, true, false, true, true, true, true, true, false, false, true, true, false, true, true, false, true, false, false, false] (.slice (some ⟨g73, 0, none⟩) 0 0) undef undef undef (.slice (some ⟨g83, 0, none⟩) 0 0) undef (.slice (some ⟨g87, 0, none⟩) 1 1) undef W) := by
          refine Lib.hid ?_
          intro W g73 g83 g87 HR0
          have HR := Lib.hid HR0
          clear HR0
          refine HIN.out _ _ _ _ _ _ _ _ _ _ _ ?_
          simp only [List.setIfInBounds_toArray, List.set_cons_zero, List.set_cons_succ]
          refine wpAnyH_ready (rs := [8, 14]) (by kernel_rfl) (by simp) ?_
          refine (AllReadyH.cons (by simp only [List.getElem?_toArray, List.getElem?_cons_zero, List.getElem?_cons_succ]; rfl) (fun K hK => ?_) (AllReadyH.cons (by simp only [List.getElem?_toArray, List.getElem?_cons_zero, List.getElem?_cons_succ]; rfl) (fun K hK => ?_) AllReadyH.nil))
          · have HF : Hid (Rows w8 W ((.slice (some ⟨g73, 0, none⟩) 0 0, []) :: ([] ++ [(.slice (some ⟨g83, 0, none⟩) 0 0, []), (.slice (some ⟨g87, 0, none⟩) 1 1, [nm])]))) := Rows.front (A := []) (B := [(.slice (some ⟨g83, 0, none⟩) 0 0, []), (.slice (some ⟨g87, 0, none⟩) 1 1, [nm])]) HR.out
            refine step_append_at (by rfl) (.tmp 73) (.tmp 74) (by rfl) w8.heap.size (.slice (some ⟨g73, 0, none⟩) 0 0) (by rfl) ([]) o1 n1 c1 (by rfl) fr NF HNF.out (HF.out.row _ (List.mem_cons_self ..)) (HSF.out W HR.out.bel) hNF0 HR.out.bel.size ?_
            intro o' c' w' hv hg ho
            have HN0 : Rows w8 w' ((.slice o' NF c', fr) :: ([] ++ [(.slice (some ⟨g83, 0, none⟩) 0 0, []), (.slice (some ⟨g87, 0, none⟩) 1 1, [nm])])) := HF.out.append hg hv ho
            have HN1 : Rows w8 w' [(.slice o' NF c', fr), (.slice (some ⟨g83, 0, none⟩) 0 0, []), (.slice (some ⟨g87, 0, none⟩) 1 1, [nm])] := Rows.back (A := []) (B := [(.slice (some ⟨g83, 0, none⟩) 0 0, []), (.slice (some ⟨g87, 0, none⟩) 1 1, [nm])]) HN0
            have HN := Lib.hid HN1
            clear HN0 HN1 hv hg ho
            refine hK.out _ _ ?_ (fun hHeld => ?_)
            · (try dsimp only); exact HS11.out _ HN.out.bel
            clear hK K hHeld
            (try simp only [Act.put, List.setIfInBounds_toArray, List.set_cons_zero, List.set_cons_succ])
            have h := HOUT.out _ _ _ _ _ _ _ _ _ _ _ (St11001010.out _ g73 o' c' g83 g87 HN.out)
            simp only [List.setIfInBounds_toArray, List.set_cons_zero, List.set_cons_succ] at h
            exact h
          · have HN0 : Rows w8 (W.alloc (.cells #[.string xa] 9)) ((.slice (some ⟨W.heap.size, 0, none⟩) 1 1, [xa]) :: ([(.slice (some ⟨g73, 0, none⟩) 0 0, [])] ++ [(.slice (some ⟨g83, 0, none⟩) 0 0, []), (.slice (some ⟨g87, 0, none⟩) 1 1, [nm])])) := HR.out.alloc _ (SRow.one W xa HR.out.bel.size) rfl
            have HN : Hid (Rows w8 (W.alloc (.cells #[.string xa] 9)) [(.slice (some ⟨g73, 0, none⟩) 0 0, []), (.slice (some ⟨W.heap.size, 0, none⟩) 1 1, [xa]), (.slice (some ⟨g83, 0, none⟩) 0 0, []), (.slice (some ⟨g87, 0, none⟩) 1 1, [nm])]) := HN0.back
            clear HN0
            go_simp
            refine hK.out _ _ ?_ (fun hHeld => ?_)
            · (try dsimp only); exact HS11.out _ HN.out.bel
            clear hK K hHeld
            (try simp only [List.setIfInBounds_toArray, List.set_cons_zero, List.set_cons_succ])
            have h := HOUT.out _ _ _ _ _ _ _ _ _ _ _ (St10101010.out _ g73 _ g83 g87 HN.out)
            simp only [List.setIfInBounds_toArray, List.set_cons_zero, List.set_cons_succ] at h
            exact h
        have St10001000 : Hid (∀ (W : World) (g73 : Nat) (g83 : Nat), Rows w8 W [(.slice (some ⟨g73, 0, none⟩) 0 0, []), (.slice (some ⟨g83, 0, none⟩) 0 0, [])] → G 9 #[true, true, true, true, true, true, true, true, false, true, true, true, true, true, false, false, true, true, false, true, false, false, true, false, false, false] (.slice (some ⟨g73, 0, none⟩) 0 0) undef undef undef (.slice (some ⟨g83, 0, none⟩) 0 0) undef undef undef W) := by
          refine Lib.hid ?_
          intro W g73 g83 HR0
          have HR := Lib.hid HR0
          clear HR0
          refine HIN.out _ _ _ _ _ _ _ _ _ _ _ ?_
          simp only [List.setIfInBounds_toArray, List.set_cons_zero, List.set_cons_succ]
          refine wpAnyH_ready (rs := [8, 14, 20]) (by kernel_rfl) (by simp) ?_
          refine (AllReadyH.cons (by simp only [List.getElem?_toArray, List.getElem?_cons_zero, List.getElem?_cons_succ]; rfl) (fun K hK => ?_) (AllReadyH.cons (by simp only [List.getElem?_toArray, List.getElem?_cons_zero, List.getElem?_cons_succ]; rfl) (fun K hK => ?_) (AllReadyH.cons (by simp only [List.getElem?_toArray, List.getElem?_cons_zero, List.getElem?_cons_succ]; rfl) (fun K hK => ?_) AllReadyH.nil)))
          · have HF : Hid (Rows w8 W ((.slice (some ⟨g73, 0, none⟩) 0 0, []) :: ([] ++ [(.slice (some ⟨g83, 0, none⟩) 0 0, [])]))) := Rows.front (A := []) (B := [(.slice (some ⟨g83, 0, none⟩) 0 0, [])]) HR.out
            refine step_append_at (by rfl) (.tmp 73) (.tmp 74) (by rfl) w8.heap.size (.slice (some ⟨g73, 0, none⟩) 0 0) (by rfl) ([]) o1 n1 c1 (by rfl) fr NF HNF.out (HF.out.row _ (List.mem_cons_self ..)) (HSF.out W HR.out.bel) hNF0 HR.out.bel.size ?_
            intro o' c' w' hv hg ho
            have HN0 : Rows w8 w' ((.slice o' NF c', fr) :: ([] ++ [(.slice (some ⟨g83, 0, none⟩) 0 0, [])])) := HF.out.append hg hv ho
            have HN1 : Rows w8 w' [(.slice o' NF c', fr), (.slice (some ⟨g83, 0, none⟩) 0 0, [])] := Rows.back (A := []) (B := [(.slice (some ⟨g83, 0, none⟩) 0 0, [])]) HN0
            have HN := Lib.hid HN1
            clear HN0 HN1 hv hg ho
            refine hK.out _ _ ?_ (fun hHeld => ?_)
            · (try dsimp only); exact HS11.out _ HN.out.bel
            clear hK K hHeld
            (try simp only [Act.put, List.setIfInBounds_toArray, List.set_cons_zero, List.set_cons_succ])
            have h := HOUT.out _ _ _ _ _ _ _ _ _ _ _ (St11001000.out _ g73 o' c' g83 HN.out)
            simp only [List.setIfInBounds_toArray, List.set_cons_zero, List.set_cons_succ] at h
            exact h
          · have HN0 : Rows w8 (W.alloc (.cells #[.string xa] 9)) ((.slice (some ⟨W.heap.size, 0, none⟩) 1 1, [xa]) :: ([(.slice (some ⟨g73, 0, none⟩) 0 0, [])] ++ [(.slice (some ⟨g83, 0, none⟩) 0 0, [])])) := HR.out.alloc _ (SRow.one W xa HR.out.bel.size) rfl
            have HN : Hid (Rows w8 (W.alloc (.cells #[.string xa] 9)) [(.slice (some ⟨g73, 0, none⟩) 0 0, []), (.slice (some ⟨W.heap.size, 0, none⟩) 1 1, [xa]), (.slice (some ⟨g83, 0, none⟩) 0 0, [])]) := HN0.back
            clear HN0
            go_simp
            refine hK.out _ _ ?_ (fun hHeld => ?_)
            · (try dsimp only); exact HS11.out _ HN.out.bel
            clear hK K hHeld
            (try simp only [List.setIfInBounds_toArray, List.set_cons_zero, List.set_cons_succ])
            have h := HOUT.out _ _ _ _ _ _ _ _ _ _ _ (St10101000.out _ g73 _ g83 HN.out)
            simp only [List.setIfInBounds_toArray, List.set_cons_zero, List.set_cons_succ] at h
            exact h
          · have HN0 : Rows w8 (W.alloc (.cells #[.string nm] 9)) ((.slice (some ⟨W.heap.size, 0, none⟩) 1 1, [nm]) :: ([(.slice (some ⟨g73, 0, none⟩) 0 0, []), (.slice (some ⟨g83, 0, none⟩) 0 0, [])] ++ [])) := HR.out.alloc _ (SRow.one W nm HR.out.bel.size) rfl
            have HN : Hid (Rows w8 (W.alloc (.cells #[.string nm] 9)) [(.slice (some ⟨g73, 0, none⟩) 0 0, []), (.slice (some ⟨g83, 0, none⟩) 0 0, []), (.slice (some ⟨W.heap.size, 0, none⟩) 1 1, [nm])]) := HN0.back
            clear HN0
            go_simp
            refine hK.out _ _ ?_ (fun hHeld => ?_)
            · (try dsimp only); exact HS11.out _ HN.out.bel
            clear hK K hHeld
            (try simp only [List.setIfInBounds_toArray, List.set_cons_zero, List.set_cons_succ])
            have h := HOUT.out _ _ _ _ _ _ _ _ _ _ _ (St10001010.out _ g73 g83 _ HN.out)
            simp only [List.setIfInBounds_toArray, List.set_cons_zero, List.set_cons_succ] at h
            exact h
        have St10000010 : Hid (∀ (W : World) (g73 : Nat) (g87 : Nat), Rows w8 W [(.slice (some ⟨g73, 0, none⟩) 0 0, []), (.slice (some ⟨g87, 0, none⟩) 1 1, [nm])] → G 9 #[true, true, true, true, true, true, true, true, false, true, true, true, true, true, false, false, false, true, false, true, true, false, true, false, false, false] (.slice (some ⟨g73, 0, none⟩) 0 0) undef undef undef undef undef (.slice (some ⟨g87, 0, none⟩) 1 1) undef W) := by
          refine Lib.hid ?_
          intro W g73 g87 HR0
          have HR := Lib.hid HR0
          clear HR0
          refine HIN.out _ _ _ _ _ _ _ _ _ _ _ ?_
          simp only [List.setIfInBounds_toArray, List.set_cons_zero, List.set_cons_succ]
          refine wpAnyH_ready (rs := [8, 14, 16]) (by kernel_rfl) (by simp) ?_
          refine (AllReadyH.cons (by simp only [List.getElem?_toArray, List.getElem?_cons_zero, List.getElem?_cons_succ]; rfl) (fun K hK => ?_) (AllReadyH.cons (by simp only [List.getElem?_toArray, List.getElem?_cons_zero, List.getElem?_cons_succ]; rfl) (fun K hK => ?_) (AllReadyH.cons (by simp only [List.getElem?_toArray, List.getElem?_cons_zero, List.getElem?_cons_succ]; rfl) (fun K hK => ?_) AllReadyH.nil)))
          · have HF : Hid (Rows w8 W ((.slice (some ⟨g73, 0, none⟩) 0 0, []) :: ([] ++ [(.slice (some ⟨g87, 0, none⟩) 1 1, [nm])]))) := Rows.front (A := []) (B := [(.slice (some ⟨g87, 0, none⟩) 1 1, [nm])]) HR.out
            refine step_append_at (by rfl) (.tmp 73) (.tmp 74) (by rfl) w8.heap.size (.slice (some ⟨g73, 0, none⟩) 0 0) (by rfl) ([]) o1 n1 c1 (by rfl) fr NF HNF.out (HF.out.row _ (List.mem_cons_self ..)) (HSF.out W HR.out.bel) hNF0 HR.out.bel.size ?_
            intro o' c' w' hv hg ho
            have HN0 : Rows w8 w' ((.slice o' NF c', fr) :: ([] ++ [(.slice (some ⟨g87, 0, none⟩) 1 1, [nm])])) := HF.out.append hg hv ho
            have HN1 : Rows w8 w' [(.slice o' NF c', fr), (.slice (some ⟨g87, 0, none⟩) 1 1, [nm])] := Rows.back (A := []) (B := [(.slice (some ⟨g87, 0, none⟩) 1 1, [nm])]) HN0
            have HN := Lib.hid HN1
            clear HN0 HN1 hv hg ho
            refine hK.out _ _ ?_ (fun hHeld => ?_)
            · (try dsimp only); exact HS11.out _ HN.out.bel
            clear hK K hHeld
            (try simp only [Act.put, List.setIfInBounds_toArray, List.set_cons_zero, List.set_cons_succ])
            have h := HOUT.out _ _ _ _ _ _ _ _ _ _ _ (St11000010.out _ g73 o' c' g87 HN.out)
            simp only [List.setIfInBounds_toArray, List.set_cons_zero, List.set_cons_succ] at h
            exact h
          · have HN0 : Rows w8 (W.alloc (.cells #[.string xa] 9)) ((.slice (some ⟨W.heap.size, 0, none⟩) 1 1, [xa]) :: ([(.slice (some ⟨g73, 0, none⟩) 0 0, [])] ++ [(.slice (some ⟨g87, 0, none⟩) 1 1, [nm])])) := HR.out.alloc _ (SRow.one W xa HR.out.bel.size) rfl
            have HN : Hid (Rows w8 (W.alloc (.cells #[.string xa] 9)) [(.slice (some ⟨g73, 0, none⟩) 0 0, []), (.slice (some ⟨W.heap.size, 0, none⟩) 1 1, [xa]), (.slice (some ⟨g87, 0, none⟩) 1 1, [nm])]) := HN0.back
            clear HN0
            go_simp
            refine hK.out _ _ ?_ (fun hHeld => ?_)
            · (try dsimp only); exact HS11.out _ HN.out.bel
            clear hK K hHeld
            (try simp only [List.setIfInBounds_toArray, List.set_cons_zero, List.set_cons_succ])
            have h := HOUT.out _ _ _ _ _ _ _ _ _ _ _ (St10100010.out _ g73 _ g87 HN.out)
            simp only [List.setIfInBounds_toArray, List.set_cons_zero, List.set_cons_succ] at h
            exact h
          · have HN0 : Rows w8 (W.alloc (.cells #[] 9)) ((.slice (some ⟨W.heap.size, 0, none⟩) 0 0, []) :: ([(.slice (some ⟨g73, 0, none⟩) 0 0, [])] ++ [(.slice (some ⟨g87, 0, none⟩) 1 1, [nm])])) := HR.out.alloc _ (SRow.empty W HR.out.bel.size) rfl
            have HN : Hid (Rows w8 (W.alloc (.cells #[] 9)) [(.slice (some ⟨g73, 0, none⟩) 0 0, []), (.slice (some ⟨W.heap.size, 0, none⟩) 0 0, []), (.slice (some ⟨g87, 0, none⟩) 1 1, [nm])]) := HN0.back
            clear HN0
            go_simp
            refine hK.out _ _ ?_ (fun hHeld => ?_)
            · (try dsimp only); exact HS11.out _ HN.out.bel
            clear hK K hHeld
            (try simp only [List.setIfInBounds_toArray, List.set_cons_zero, List.set_cons_succ])
            have h := HOUT.out _ _ _ _ _ _ _ _ _ _ _ (St10001010.out _ g73 _ g87 HN.out)
            simp only [List.setIfInBounds_toArray, List.set_cons_zero, List.set_cons_succ] at h
            exact h
        have St10000000 : Hid (∀ (W : World) (g73 : Nat), Rows w8 W [(.slice (some ⟨g73, 0, none⟩) 0 0, [])] → G 10 #[true, true, true, true, true, true, true, true, false, true, true, true, true, true, false, false, false, true, false, true, false, false, true, false, false, false] (.slice (some ⟨g73, 0, none⟩) 0 0) undef undef undef undef undef undef undef W) := by
          refine Lib.hid ?_
          intro W g73 HR0
          have HR := Lib.hid HR0
          clear HR0
          refine HIN.out _ _ _ _ _ _ _ _ _ _ _ ?_
          simp only [List.setIfInBounds_toArray, List.set_cons_zero, List.set_cons_succ]
          refine wpAnyH_ready (rs := [8, 14, 16, 20]) (by kernel_rfl) (by simp) ?_
          refine (AllReadyH.cons (by simp only [List.getElem?_toArray, List.getElem?_cons_zero, List.getElem?_cons_succ]; rfl) (fun K hK => ?_) (AllReadyH.cons (by simp only [List.getElem?_toArray, List.getElem?_cons_zero, List.getElem?_cons_succ]; rfl) (fun K hK => ?_) (AllReadyH.cons (by simp only [List.getElem?_toArray, List.getElem?_cons_zero, List.getElem?_cons_succ]; rfl) (fun K hK => ?_) (AllReadyH.cons (by simp only [List.getElem?_toArray, List.getElem?_cons_zero, List.getElem?_cons_succ]; rfl) (fun K hK => ?_) AllReadyH.nil))))
          · have HF : Hid (Rows w8 W ((.slice (some ⟨g73, 0, none⟩) 0 0, []) :: ([] ++ []))) := Rows.front (A := []) (B := []) HR.out
            refine step_append_at (by rfl) (.tmp 73) (.tmp 74) (by rfl) w8.heap.size (.slice (some ⟨g73, 0, none⟩) 0 0) (by rfl) ([]) o1 n1 c1 (by rfl) fr NF HNF.out (HF.out.row _ (List.mem_cons_self ..)) (HSF.out W HR.out.bel) hNF0 HR.out.bel.size ?_
            intro o' c' w' hv hg ho
            have HN0 : Rows w8 w' ((.slice o' NF c', fr) :: ([] ++ [])) := HF.out.append hg hv ho
            have HN1 : Rows w8 w' [(.slice o' NF c', fr)] := Rows.back (A := []) (B := []) HN0
            have HN := Lib.hid HN1
            clear HN0 HN1 hv hg ho
            refine hK.out _ _ ?_ (fun hHeld => ?_)
            · (try dsimp only); exact HS11.out _ HN.out.bel
            clear hK K hHeld
            (try simp only [Act.put, List.setIfInBounds_toArray, List.set_cons_zero, List.set_cons_succ])
            have h := HOUT.out _ _ _ _ _ _ _ _ _ _ _ (St11000000.out _ g73 o' c' HN.out)
            simp only [List.setIfInBounds_toArray, List.set_cons_zero, List.set_cons_succ] at h
            exact h
          · have HN0 : Rows w8 (W.alloc (.cells #[.string xa] 9)) ((.slice (some ⟨W.heap.size, 0, none⟩) 1 1, [xa]) :: ([(.slice (some ⟨g73, 0, none⟩) 0 0, [])] ++ [])) := HR.out.alloc _ (SRow.one W xa HR.out.bel.size) rfl
            have HN : Hid (Rows w8 (W.alloc (.cells #[.string xa] 9)) [(.slice (some ⟨g73, 0, none⟩) 0 0, []), (.slice (some ⟨W.heap.size, 0, none⟩) 1 1, [xa])]) := HN0.back
            clear HN0
            go_simp
            refine hK.out _ _ ?_ (fun hHeld => ?_)
            · (try dsimp only); exact HS11.out _ HN.out.bel
            clear hK K hHeld
            (try simp only [List.setIfInBounds_toArray, List.set_cons_zero, List.set_cons_succ])
            have h := HOUT.out _ _ _ _ _ _ _ _ _ _ _ (St10100000.out _ g73 _ HN.out)
            simp only [List.setIfInBounds_toArray, List.set_cons_zero, List.set_cons_succ] at h
            exact h
          · have HN0 : Rows w8 (W.alloc (.cells #[] 9)) ((.slice (some ⟨W.heap.size, 0, none⟩) 0 0, []) :: ([(.slice (some ⟨g73, 0, none⟩) 0 0, [])] ++ [])) := HR.out.alloc _ (SRow.empty W HR.out.bel.size) rfl
            have HN : Hid (Rows w8 (W.alloc (.cells #[] 9)) [(.slice (some ⟨g73, 0, none⟩) 0 0, []), (.slice (some ⟨W.heap.size, 0, none⟩) 0 0, [])]) := HN0.back
            clear HN0
            go_simp
            refine hK.out _ _ ?_ (fun hHeld => ?_)
            · (try dsimp only); exact HS11.out _ HN.out.bel
            clear hK K hHeld
            (try simp only [List.setIfInBounds_toArray, List.set_cons_zero, List.set_cons_succ])
            have h := HOUT.out _ _ _ _ _ _ _ _ _ _ _ (St10001000.out _ g73 _ HN.out)
            simp only [List.setIfInBounds_toArray, List.set_cons_zero, List.set_cons_succ] at h
            exact h
          · have HN0 : Rows w8 (W.alloc (.cells #[.string nm] 9)) ((.slice (some ⟨W.heap.size, 0, none⟩) 1 1, [nm]) :: ([(.slice (some ⟨g73, 0, none⟩) 0 0, [])] ++ [])) := HR.out.alloc _ (SRow.one W nm HR.out.bel.size) rfl
            have HN : Hid (Rows w8 (W.alloc (.cells #[.string nm] 9)) [(.slice (some ⟨g73, 0, none⟩) 0 0, []), (.slice (some ⟨W.heap.size, 0, none⟩) 1 1, [nm])]) := HN0.back
            clear HN0
            go_simp
            refine hK.out _ _ ?_ (fun hHeld => ?_)
            · (try dsimp only); exact HS11.out _ HN.out.bel
            clear hK K hHeld
            (try simp only [List.setIfInBounds_toArray, List.set_cons_zero, List.set_cons_succ])
            have h := HOUT.out _ _ _ _ _ _ _ _ _ _ _ (St10000010.out _ g73 _ HN.out)
            simp only [List.setIfInBounds_toArray, List.set_cons_zero, List.set_cons_succ] at h
            exact h
        have St00101010 : Hid (∀ (W : World) (g81 : Nat) (g83 : Nat) (g87 : Nat), Rows w8 W [(.slice (some ⟨g81, 0, none⟩) 1 1, [xa]), (.slice (some ⟨g83, 0, none⟩) 0 0, []), (.slice (some ⟨g87, 0, none⟩) 1 1, [nm])] → G 8 #[true, true, true, true, true, true, false, true, false, true, true, true, true, true, true, false, true, true, false, true, true, false, true, false, false, false] undef undef (.slice (some ⟨g81, 0, none⟩) 1 1) undef (.slice (some ⟨g83, 0, none⟩) 0 0) undef (.slice (some ⟨g87, 0, none⟩) 1 1) undef W) := by
          refine Lib.hid ?_
          intro W g81 g83 g87 HR0
          have HR := Lib.hid HR0
          clear HR0
          refine HIN.out _ _ _ _ _ _ _ _ _ _ _ ?_
          simp only [List.setIfInBounds_toArray, List.set_cons_zero, List.set_cons_succ]
          refine wpAnyH_ready (rs := [6]) (by kernel_rfl) (by simp) ?_
          refine (AllReadyH.cons (by simp only [List.getElem?_toArray, List.getElem?_cons_zero, List.getElem?_cons_succ]; rfl) (fun K hK => ?_) AllReadyH.nil)
          · have HN0 : Rows w8 (W.alloc (.cells #[] 9)) ((.slice (some ⟨W.heap.size, 0, none⟩) 0 0, []) :: ([] ++ [(.slice (some ⟨g81, 0, none⟩) 1 1, [xa]), (.slice (some ⟨g83, 0, none⟩) 0 0, []), (.slice (some ⟨g87, 0, none⟩) 1 1, [nm])])) := HR.out.alloc _ (SRow.empty W HR.out.bel.size) rfl
            have HN : Hid (Rows w8 (W.alloc (.cells #[] 9)) [(.slice (some ⟨W.heap.size, 0, none⟩) 0 0, []), (.slice (some ⟨g81, 0, none⟩) 1 1, [xa]), (.slice (some ⟨g83, 0, none⟩) 0 0, []), (.slice (some ⟨g87, 0, none⟩) 1 1, [nm])]) := HN0.back
            clear HN0
            go_simp
            refine hK.out _ _ ?_ (fun hHeld => ?_)
            · (try dsimp only); exact HS11.out _ HN.out.bel
            clear hK K hHeld
            (try simp only [List.setIfInBounds_toArray, List.set_cons_zero, List.set_cons_succ])
            have h := HOUT.out _ _ _ _ _ _ _ _ _ _ _ (St10101010.out _ _ g81 g83 g87 HN.out)
            simp only [List.setIfInBounds_toArray, List.set_cons_zero, List.set_cons_succ] at h
            exact h
        have St00101000 : Hid (∀ (W : World) (g81 : Nat) (g83 : Nat), Rows w8 W [(.slice (some ⟨g81, 0, none⟩) 1 1, [xa]), (.slice (some ⟨g83, 0, none⟩) 0 0, [])] → G 9 #[true, true, true, true, true, true, false, true, false, true, true, true, true, true, true, false, true, true, false, true, false, false, true, false, false, false] undef undef (.slice (some ⟨g81, 0, none⟩) 1 1) undef (.slice (some ⟨g83, 0, none⟩) 0 0) undef undef undef W) := by
          refine Lib.hid ?_
          intro W g81 g83 HR0
          have HR := Lib.hid HR0
          clear HR0
          refine HIN.out _ _ _ _ _ _ _ _ _ _ _ ?_
          simp only [List.setIfInBounds_toArray, List.set_cons_zero, List.set_cons_succ]
          refine wpAnyH_ready (rs := [6, 20]) (by kernel_rfl) (by simp) ?_
          refine (AllReadyH.cons (by simp only [List.getElem?_toArray, List.getElem?_cons_zero, List.getElem?_cons_succ]; rfl) (fun K hK => ?_) (AllReadyH.cons (by simp only [List.getElem?_toArray, List.getElem?_cons_zero, List.getElem?_cons_succ]; rfl) (fun K hK => ?_) AllReadyH.nil))
          · have HN0 : Rows w8 (W.alloc (.cells #[] 9)) ((.slice (some ⟨W.heap.size, 0, none⟩) 0 0, []) :: ([] ++ [(.slice (some ⟨g81, 0, none⟩) 1 1, [xa]), (.slice (some ⟨g83, 0, none⟩) 0 0, [])])) := HR.out.alloc _ (SRow.empty W HR.out.bel.size) rfl
            have HN : Hid (Rows w8 (W.alloc (.cells #[] 9)) [(.slice (some ⟨W.heap.size, 0, none⟩) 0 0, []), (.slice (some ⟨g81, 0, none⟩) 1 1, [xa]), (.slice (some ⟨g83, 0, none⟩) 0 0, [])]) := HN0.back
            clear HN0
            go_simp
            refine hK.out _ _ ?_ (fun hHeld => ?_)
            · (try dsimp only); exact HS11.out _ HN.out.bel
            clear hK K hHeld
            (try simp only [List.setIfInBounds_toArray, List.set_cons_zero, List.set_cons_succ])
            have h := HOUT.out _ _ _ _ _ _ _ _ _ _ _ (St10101000.out _ _ g81 g83 HN.out)
            simp only [List.setIfInBounds_toArray, List.set_cons_zero, List.set_cons_succ] at h
            exact h
          · have HN0 : Rows w8 (W.alloc (.cells #[.string nm] 9)) ((.slice (some ⟨W.heap.size, 0, none⟩) 1 1, [nm]) :: ([(.slice (some ⟨g81, 0, none⟩) 1 1, [xa]), (.slice (some ⟨g83, 0, none⟩) 0 0, [])] ++ [])) := HR.out.alloc _ (SRow.one W nm HR.out.bel.size) rfl
            have HN : Hid (Rows w8 (W.alloc (.cells #[.string nm] 9)) [(.slice (some ⟨g81, 0, none⟩) 1 1, [xa]), (.slice (some ⟨g83, 0, none⟩) 0 0, []), (.slice (some ⟨W.heap.size, 0, none⟩) 1 1, [nm])]) := HN0.back
            clear HN0
            go_simp
            refine hK.out _ _ ?_ (fun hHeld => ?_)
            · (try dsimp only); exact HS11.out _ HN.out.bel
            clear hK K hHeld
            (try simp only [List.setIfInBounds_toArray, List.set_cons_zero, List.set_cons_succ])
            have h := HOUT.out _ _ _ _ _ _ _ _ _ _ _ (St00101010.out _ g81 g83 _ HN.out)
            simp only [List.setIfInBounds_toArray, List.set_cons_zero, List.set_cons_succ] at h
            exact h
        have St00100010 : Hid (∀ (W : World) (g81 : Nat) (g87 : Nat), Rows w8 W [(.slice (some ⟨g81, 0, none⟩) 1 1, [xa]), (.slice (some ⟨g87, 0, none⟩) 1 1, [nm])] → G 9 #[true, true, true, true, true, true, false, true, false, true, true, true, true, true, true, false, false, true, false, true, true, false, true, false, false, false] undef undef (.slice (some ⟨g81, 0, none⟩) 1 1) undef undef undef (.slice (some ⟨g87, 0, none⟩) 1 1) undef W) := by
          refine Lib.hid ?_
          intro W g81 g87 HR0
          have HR := Lib.hid HR0
          clear HR0
          refine HIN.out _ _ _ _ _ _ _ _ _ _ _ ?_
          simp only [List.setIfInBounds_toArray, List.set_cons_zero, List.set_cons_succ]
          refine wpAnyH_ready (rs := [6, 16]) (by kernel_rfl) (by simp) ?_
          refine (AllReadyH.cons (by simp only [List.getElem?_toArray, List.getElem?_cons_zero, List.getElem?_cons_succ]; rfl) (fun K hK => ?_) (AllReadyH.cons (by simp only [List.getElem?_toArray, List.getElem?_cons_zero, List.getElem?_cons_succ]; rfl) (fun K hK => ?_) AllReadyH.nil))
          · have HN0 : Rows w8 (W.alloc (.cells #[] 9)) ((.slice (some ⟨W.heap.size, 0, none⟩) 0 0, []) :: ([] ++ [(.slice (some ⟨g81, 0, none⟩) 1 1, [xa]), (.slice (some ⟨g87, 0, none⟩) 1 1, [nm])])) := HR.out.alloc _ (SRow.empty W HR.out.bel.size) rfl
            have HN : Hid (Rows w8 (W.alloc (.cells #[] 9)) [(.slice (some ⟨W.heap.size, 0, none⟩) 0 0, []), (.slice (some ⟨g81, 0, none⟩) 1 1, [xa]), (.slice (some ⟨g87, 0, none⟩) 1 1, [nm])]) := HN0.back
            clear HN0
            go_simp
            refine hK.out _ _ ?_ (fun hHeld => ?_)
            · (try dsimp only); exact HS11.out _ HN.out.bel
            clear hK K hHeld
            (try simp only [List.setIfInBounds_toArray, List.set_cons_zero, List.set_cons_succ])
            have h := HOUT.out _ _ _ _ _ _ _ _ _ _ _ (St10100010.out _ _ g81 g87 HN.out)
            simp only [List.setIfInBounds_toArray, List.set_cons_zero, List.set_cons_succ] at h
            exact h
          · have HN0 : Rows w8 (W.alloc (.cells #[] 9)) ((.slice (some ⟨W.heap.size, 0, none⟩) 0 0, []) :: ([(.slice (some ⟨g81, 0, none⟩) 1 1, [xa])] ++ [(.slice (some ⟨g87, 0, none⟩) 1 1, [nm])])) := HR.out.alloc _ (SRow.empty W HR.out.bel.size) rfl
            have HN : Hid (Rows w8 (W.alloc (.cells #[] 9)) [(.slice (some ⟨g81, 0, none⟩) 1 1, [xa]), (.slice (some ⟨W.heap.size, 0, none⟩) 0 0, []), (.slice (some ⟨g87, 0, none⟩) 1 1, [nm])]) := HN0.back
            clear HN0
            go_simp
            refine hK.out _ _ ?_ (fun hHeld => ?_)
            · (try dsimp only); exact HS11.out _ HN.out.bel
            clear hK K hHeld
            (try simp only [List.setIfInBounds_toArray, List.set_cons_zero, List.set_cons_succ])
            have h := HOUT.out _ _ _ _ _ _ _ _ _ _ _ (St00101010.out _ g81 _ g87 HN.out)
            simp only [List.setIfInBounds_toArray, List.set_cons_zero, List.set_cons_succ] at h
            exact h
        have St00100000 : Hid (∀ (W : World) (g81 : Nat), Rows w8 W [(.slice (some ⟨g81, 0, none⟩) 1 1, [xa])] → G 10 #[true, true, true, true, true, true, false, true, false, true, true, true, true, true, true, false, false, true, false, true, false, false, true, false, false, false] undef undef (.slice (some ⟨g81, 0, none⟩) 1 1) undef undef undef undef undef W) := by
          refine Lib.hid ?_
          intro W g81 HR0
          have HR := Lib.hid HR0
          clear HR0
          refine HIN.out _ _ _ _ _ _ _ _ _ _ _ ?_
          simp only [List.setIfInBounds_toArray, List.set_cons_zero, List.set_cons_succ]
          refine wpAnyH_ready (rs := [6, 16, 20]) (by kernel_rfl) (by simp) ?_
          refine (AllReadyH.cons (by simp only [List.getElem?_toArray, List.getElem?_cons_zero, List.getElem?_cons_succ]; rfl) (fun K hK => ?_) (AllReadyH.cons (by simp only [List.getElem?_toArray, List.getElem?_cons_zero, List.getElem?_cons_succ]; rfl) (fun K hK => ?_) (AllReadyH.cons (by simp only [List.getElem?_toArray, List.getElem?_cons_zero, List.getElem?_cons_succ]; rfl) (fun K hK => ?_) AllReadyH.nil)))
          · have HN0 : Rows w8 (W.alloc (.cells #[] 9)) ((.slice (some ⟨W.heap.size, 0, none⟩) 0 0, []) :: ([] ++ [(.slice (some ⟨g81, 0, none⟩) 1 1, [xa])])) := HR.out.alloc _ (SRow.empty W HR.out.bel.size) rfl
            have HN : Hid (Rows w8 (W.alloc (.cells #[] 9)) [(.slice (some ⟨W.heap.size, 0, none⟩) 0 0, []), (.slice (some ⟨g81, 0, none⟩) 1 1, [xa])]) := HN0.back
            clear HN0
            go_simp
            refine hK.out _ _ ?_ (fun hHeld => ?_)
            · (try dsimp only); exact HS11.out _ HN.out.bel
            clear hK K hHeld
            (try simp only [List.setIfInBounds_toArray, List.set_cons_zero, List.set_cons_succ])
            have h := HOUT.out _ _ _ _ _ _ _ _ _ _ _ (St10100000.out _ _ g81 HN.out)
            simp only [List.setIfInBounds_toArray, List.set_cons_zero, List.set_cons_succ] at h
            exact h
          · have HN0 : Rows w8 (W.alloc (.cells #[] 9)) ((.slice (some ⟨W.heap.size, 0, none⟩) 0 0, []) :: ([(.slice (some ⟨g81, 0, none⟩) 1 1, [xa])] ++ [])) := HR.out.alloc _ (SRow.empty W HR.out.bel.size) rfl
            have HN : Hid (Rows w8 (W.alloc (.cells #[] 9)) [(.slice (some ⟨g81, 0, none⟩) 1 1, [xa]), (.slice (some ⟨W.heap.size, 0, none⟩) 0 0, [])]) := HN0.back
            clear HN0
            go_simp
            refine hK.out _ _ ?_ (fun hHeld => ?_)
            · (try dsimp only); exact HS11.out _ HN.out.bel
            clear hK K hHeld
            (try simp only [List.setIfInBounds_toArray, List.set_cons_zero, List.set_cons_succ])
            have h := HOUT.out _ _ _ _ _ _ _ _ _ _ _ (St00101000.out _ g81 _ HN.out)
            simp only [List.setIfInBounds_toArray, List.set_cons_zero, List.set_cons_succ] at h
            exact h
          · have HN0 : Rows w8 (W.alloc (.cells #[.string nm] 9)) ((.slice (some ⟨W.heap.size, 0, none⟩) 1 1, [nm]) :: ([(.slice (some ⟨g81, 0, none⟩) 1 1, [xa])] ++ [])) := HR.out.alloc _ (SRow.one W nm HR.out.bel.size) rfl
            have HN : Hid (Rows w8 (W.alloc (.cells #[.string nm] 9)) [(.slice (some ⟨g81, 0, none⟩) 1 1, [xa]), (.slice (some ⟨W.heap.size, 0, none⟩) 1 1, [nm])]) := HN0.back
            clear HN0
            go_simp
            refine hK.out _ _ ?_ (fun hHeld => ?_)
            · (try dsimp only); exact HS11.out _ HN.out.bel
            clear hK K hHeld
            (try simp only [List.setIfInBounds_toArray, List.set_cons_zero, List.set_cons_succ])
            have h := HOUT.out _ _ _ _ _ _ _ _ _ _ _ (St00100010.out _ g81 _ HN.out)
            simp only [List.setIfInBounds_toArray, List.set_cons_zero, List.set_cons_succ] at h
            exact h
        have St00001010 : Hid (∀ (W : World) (g83 : Nat) (g87 : Nat), Rows w8 W [(.slice (some ⟨g83, 0, none⟩) 0 0, []), (.slice (some ⟨g87, 0, none⟩) 1 1, [nm])] → G 9 #[true, true, true, true, true, true, false, true, false, true, true, true, true, true, false, false, true, true, false, true, true, false, true, false, false, false] undef undef undef undef (.slice (some ⟨g83, 0, none⟩) 0 0) undef (.slice (some ⟨g87, 0, none⟩) 1 1) undef W) := by
          refine Lib.hid ?_
          intro W g83 g87 HR0
          have HR := Lib.hid HR0
          clear HR0
          refine HIN.out _ _ _ _ _ _ _ _ _ _ _ ?_
          simp only [List.setIfInBounds_toArray, List.set_cons_zero, List.set_cons_succ]
          refine wpAnyH_ready (rs := [6, 14]) (by kernel_rfl) (by simp) ?_
          refine (AllReadyH.cons (by simp only [List.getElem?_toArray, List.getElem?_cons_zero, List.getElem?_cons_succ]; rfl) (fun K hK => ?_) (AllReadyH.cons (by simp only [List.getElem?_toArray, List.getElem?_cons_zero, List.getElem?_cons_succ]; rfl) (fun K hK => ?_) AllReadyH.nil))
          · have HN0 : Rows w8 (W.alloc (.cells #[] 9)) ((.slice (some ⟨W.heap.size, 0, none⟩) 0 0, []) :: ([] ++ [(.slice (some ⟨g83, 0, none⟩) 0 0, []), (.slice (some ⟨g87, 0, none⟩) 1 1, [nm])])) := HR.out.alloc _ (SRow.empty W HR.out.bel.size) rfl
            have HN : Hid (Rows w8 (W.alloc (.cells #[] 9)) [(.slice (some ⟨W.heap.size, 0, none⟩) 0 0, []), (.slice (some ⟨g83, 0, none⟩) 0 0, []), (.slice (some ⟨g87, 0, none⟩) 1 1, [nm])]) := HN0.back
            clear HN0
            go_simp
            refine hK.out _ _ ?_ (fun hHeld => ?_)
            · (try dsimp only); exact HS11.out _ HN.out.bel
            clear hK K hHeld
            (try simp only [List.setIfInBounds_toArray, List.set_cons_zero, List.set_cons_succ])
            have h := HOUT.out _ _ _ _ _ _ _ _ _ _ _ (St10001010.out _ _ g83 g87 HN.out)
            simp only [List.setIfInBounds_toArray, List.set_cons_zero, List.set_cons_succ] at h
            exact h
          · have HN0 : Rows w8 (W.alloc (.cells #[.string xa] 9)) ((.slice (some ⟨W.heap.size, 0, none⟩) 1 1, [xa]) :: ([] ++ [(.slice (some ⟨g83, 0, none⟩) 0 0, []), (.slice (some ⟨g87, 0, none⟩) 1 1, [nm])])) := HR.out.alloc _ (SRow.one W xa HR.out.bel.size) rfl
            have HN : Hid (Rows w8 (W.alloc (.cells #[.string xa] 9)) [(.slice (some ⟨W.heap.size, 0, none⟩) 1 1, [xa]), (.slice (some ⟨g83, 0, none⟩) 0 0, []), (.slice (some ⟨g87, 0, none⟩) 1 1, [nm])]) := HN0.back
            clear HN0
            go_simp
            refine hK.out _ _ ?_ (fun hHeld => ?_)
            · (try dsimp only); exact HS11.out _ HN.out.bel
            clear hK K hHeld
            (try simp only [List.setIfInBounds_toArray, List.set_cons_zero, List.set_cons_succ])
            have h := HOUT.out _ _ _ _ _ _ _ _ _ _ _ (St00101010.out _ _ g83 g87 HN.out)
            simp only [List.setIfInBounds_toArray, List.set_cons_zero, List.set_cons_succ] at h
            exact h
        have St00001000 : Hid (∀ (W : World) (g83 : Nat), Rows w8 W [(.slice (some ⟨g83, 0, none⟩) 0 0, [])] → G 10 #[true, true, true, true, true, true, false, true, false, true, true, true, true, true, false, false, true, true, false, true, false, false, true, false, false, false] undef undef undef undef (.slice (some ⟨g83, 0, none⟩) 0 0) undef undef undef W) := by
          refine Lib.hid ?_
          intro W g83 HR0
          have HR := Lib.hid HR0
          clear HR0
          refine HIN.out _ _ _ _ _ _ _ _ _ _ _ ?_
          simp only [List.setIfInBounds_toArray, List.set_cons_zero, List.set_cons_succ]
          refine wpAnyH_ready (rs := [6, 14, 20]) (by kernel_rfl) (by simp) ?_
          refine (AllReadyH.cons (by simp only [List.getElem?_toArray, List.getElem?_cons_zero, List.getElem?_cons_succ]; rfl) (fun K hK => ?_) (AllReadyH.cons (by simp only [List.getElem?_toArray, List.getElem?_cons_zero, List.getElem?_cons_succ]; rfl) (fun K hK => ?_) (AllReadyH.cons (by simp only [List.getElem?_toArray, List.getElem?_cons_zero, List.getElem?_cons_succ]; rfl) (fun K hK => ?_) AllReadyH.nil)))
          · have HN0 : Rows w8 (W.alloc (.cells #[] 9)) ((.slice (some ⟨W.heap.size, 0, none⟩) 0 0, []) :: ([] ++ [(.slice (some ⟨g83, 0, none⟩) 0 0, [])])) := HR.out.alloc _ (SRow.empty W HR.out.bel.size) rfl
            have HN : Hid (Rows w8 (W.alloc (.cells #[] 9)) [(.slice (some ⟨W.heap.size, 0, none⟩) 0 0, []), (.slice (some ⟨g83, 0, none⟩) 0 0, [])]) := HN0.back
            clear HN0
            go_simp
            refine hK.out _ _ ?_ (fun hHeld => ?_)
            · (try dsimp only); exact HS11.out _ HN.out.bel
            clear hK K hHeld
            (try simp only [List.setIfInBounds_toArray, List.set_cons_zero, List.set_cons_succ])
            have h := HOUT.out _ _ _ _ _ _ _ _ _ _ _ (St10001000.out _ _ g83 HN.out)
            simp only [List.setIfInBounds_toArray, List.set_cons_zero, List.set_cons_succ] at h
            exact h
          · have HN0 : Rows w8 (W.alloc (.cells #[.string xa] 9)) ((.slice (some ⟨W.heap.size, 0, none⟩) 1 1, [xa]) :: ([] ++ [(.slice (some ⟨g83, 0, none⟩) 0 0, [])])) := HR.out.alloc _ (SRow.one W xa HR.out.bel.size) rfl
            have HN : Hid (Rows w8 (W.alloc (.cells #[.string xa] 9)) [(.slice (some ⟨W.heap.size, 0, none⟩) 1 1, [xa]), (.slice (some ⟨g83, 0, none⟩) 0 0, [])]) := HN0.back
            clear HN0
            go_simp
            refine hK.out _ _ ?_ (fun hHeld => ?_)
            · (try dsimp only); exact HS11.out _ HN.out.bel
            clear hK K hHeld
            (try simp only [List.setIfInBounds_toArray, List.set_cons_zero, List.set_cons_succ])
            have h := HOUT.out _ _ _ _ _ _ _ _ _ _ _ (St00101000.out _ _ g83 HN.out)
            simp only [List.setIfInBounds_toArray, List.set_cons_zero, List.set_cons_succ] at h
            exact h
          · have HN0 : Rows w8 (W.alloc (.cells #[.string nm] 9)) ((.slice (some ⟨W.heap.size, 0, none⟩) 1 1, [nm]) :: ([(.slice (some ⟨g83, 0, none⟩) 0 0, [])] ++ [])) := HR.out.alloc _ (SRow.one W nm HR.out.bel.size) rfl
            have HN : Hid (Rows w8 (W.alloc (.cells #[.string nm] 9)) [(.slice (some ⟨g83, 0, none⟩) 0 0, []), (.slice (some ⟨W.heap.size, 0, none⟩) 1 1, [nm])]) := HN0.back
            clear HN0
            go_simp
            refine hK.out _ _ ?_ (fun hHeld => ?_)
            · (try dsimp only); exact HS11.out _ HN.out.bel
            clear hK K hHeld
            (try simp only [List.setIfInBounds_toArray, List.set_cons_zero, List.set_cons_succ])
            have h := HOUT.out _ _ _ _ _ _ _ _ _ _ _ (St00001010.out _ g83 _ HN.out)
            simp only [List.setIfInBounds_toArray, List.set_cons_zero, List.set_cons_succ] at h
            exact h
        have St00000010 : Hid (∀ (W : World) (g87 : Nat), Rows w8 W [(.slice (some ⟨g87, 0, none⟩) 1 1, [nm])] → G 10 #[true, true, true, true, true, true, false, true, false, true, true, true, true, true, false, false, false, true, false, true, true, false, true, false, false, false] undef undef undef undef undef undef (.slice (some ⟨g87, 0, none⟩) 1 1) undef W) := by
          refine Lib.hid ?_
          intro W g87 HR0
          have HR := Lib.hid HR0
          clear HR0
          refine HIN.out _ _ _ _ _ _ _ _ _ _ _ ?_
          simp only [List.setIfInBounds_toArray, List.set_cons_zero, List.set_cons_succ]
          refine wpAnyH_ready (rs := [6, 14, 16]) (by kernel_rfl) (by simp) ?_
          refine (AllReadyH.cons (by simp only [List.getElem?_toArray, List.getElem?_cons_zero, List.getElem?_cons_succ]; rfl) (fun K hK => ?_) (AllReadyH.cons (by simp only [List.getElem?_toArray, List.getElem?_cons_zero, List.getElem?_cons_succ]; rfl) (fun K hK => ?_) (AllReadyH.cons (by simp only [List.getElem?_toArray, List.getElem?_cons_zero, List.getElem?_cons_succ]; rfl) (fun K hK => ?_) AllReadyH.nil)))
          · have HN0 : Rows w8 (W.alloc (.cells #[] 9)) ((.slice (some ⟨W.heap.size, 0, none⟩) 0 0, []) :: ([] ++ [(.slice (some ⟨g87, 0, none⟩) 1 1, [nm])])) := HR.out.alloc _ (SRow.empty W HR.out.bel.size) rfl
            have HN : Hid (Rows w8 (W.alloc (.cells #[] 9)) [(.slice (some ⟨W.heap.size, 0, none⟩) 0 0, []), (.slice (some ⟨g87, 0, none⟩) 1 1, [nm])]) := HN0.back
            clear HN0
            go_simp
            refine hK.out _ _ ?_ (fun hHeld => ?_)
            · (try dsimp only); exact HS11.out _ HN.out.bel
            clear hK K hHeld
            (try simp only [List.setIfInBounds_toArray, List.set_cons_zero, List.set_cons_succ])
            have h := HOUT.out _ _ _ _ _ _ _ _ _ _ _ (St10000010.out _ _ g87 HN.out)
            simp only [List.setIfInBounds_toArray, List.set_cons_zero, List.set_cons_succ] at h
            exact h
          · have HN0 : Rows w8 (W.alloc (.cells #[.string xa] 9)) ((.slice (some ⟨W.heap.size, 0, none⟩) 1 1, [xa]) :: ([] ++ [(.slice (some ⟨g87, 0, none⟩) 1 1, [nm])])) := HR.out.alloc _ (SRow.one W xa HR.out.bel.size) rfl
            have HN : Hid (Rows w8 (W.alloc (.cells #[.string xa] 9)) [(.slice (some ⟨W.heap.size, 0, none⟩) 1 1, [xa]), (.slice (some ⟨g87, 0, none⟩) 1 1, [nm])]) := HN0.back
            clear HN0
            go_simp
            refine hK.out _ _ ?_ (fun hHeld => ?_)
            · (try dsimp only); exact HS11.out _ HN.out.bel
            clear hK K hHeld
            (try simp only [List.setIfInBounds_toArray, List.set_cons_zero, List.set_cons_succ])
            have h := HOUT.out _ _ _ _ _ _ _ _ _ _ _ (St00100010.out _ _ g87 HN.out)
            simp only [List.setIfInBounds_toArray, List.set_cons_zero, List.set_cons_succ] at h
            exact h
          · have HN0 : Rows w8 (W.alloc (.cells #[] 9)) ((.slice (some ⟨W.heap.size, 0, none⟩) 0 0, []) :: ([] ++ [(.slice (some ⟨g87, 0, none⟩) 1 1, [nm])])) := HR.out.alloc _ (SRow.empty W HR.out.bel.size) rfl
            have HN : Hid (Rows w8 (W.alloc (.cells #[] 9)) [(.slice (some ⟨W.heap.size, 0, none⟩) 0 0, []), (.slice (some ⟨g87, 0, none⟩) 1 1, [nm])]) := HN0.back
            clear HN0
            go_simp
            refine hK.out _ _ ?_ (fun hHeld => ?_)
            · (try dsimp only); exact HS11.out _ HN.out.bel
            clear hK K hHeld
            (try simp only [List.setIfInBounds_toArray, List.set_cons_zero, List.set_cons_succ])
            have h := HOUT.out _ _ _ _ _ _ _ _ _ _ _ (St00001010.out _ _ g87 HN.out)
            simp only [List.setIfInBounds_toArray, List.set_cons_zero, List.set_cons_succ] at h
            exact h
        have St00000000 : Hid (∀ (W : World) , Rows w8 W [] → G 11 #[true, true, true, true, true, true, false, true, false, true, true, true, true, true, false, false, false, true, false, true, false, false, true, false, false, false] undef undef undef undef undef undef undef undef W) := by
          refine Lib.hid ?_
          intro W  HR0
          have HR := Lib.hid HR0
          clear HR0
          refine HIN.out _ _ _ _ _ _ _ _ _ _ _ ?_
          simp only [List.setIfInBounds_toArray, List.set_cons_zero, List.set_cons_succ]
          refine wpAnyH_ready (rs := [6, 14, 16, 20]) (by kernel_rfl) (by simp) ?_
          refine (AllReadyH.cons (by simp only [List.getElem?_toArray, List.getElem?_cons_zero, List.getElem?_cons_succ]; rfl) (fun K hK => ?_) (AllReadyH.cons (by simp only [List.getElem?_toArray, List.getElem?_cons_zero, List.getElem?_cons_succ]; rfl) (fun K hK => ?_) (AllReadyH.cons (by simp only [List.getElem?_toArray, List.getElem?_cons_zero, List.getElem?_cons_succ]; rfl) (fun K hK => ?_) (AllReadyH.cons (by simp only [List.getElem?_toArray, List.getElem?_cons_zero, List.getElem?_cons_succ]; rfl) (fun K hK => ?_) AllReadyH.nil))))
          · have HN0 : Rows w8 (W.alloc (.cells #[] 9)) ((.slice (some ⟨W.heap.size, 0, none⟩) 0 0, []) :: ([] ++ [])) := HR.out.alloc _ (SRow.empty W HR.out.bel.size) rfl
            have HN : Hid (Rows w8 (W.alloc (.cells #[] 9)) [(.slice (some ⟨W.heap.size, 0, none⟩) 0 0, [])]) := HN0.back
            clear HN0
            go_simp
            refine hK.out _ _ ?_ (fun hHeld => ?_)
            · (try dsimp only); exact HS11.out _ HN.out.bel
            clear hK K hHeld
            (try simp only [List.setIfInBounds_toArray, List.set_cons_zero, List.set_cons_succ])
            have h := HOUT.out _ _ _ _ _ _ _ _ _ _ _ (St10000000.out _ _ HN.out)
            simp only [List.setIfInBounds_toArray, List.set_cons_zero, List.set_cons_succ] at h
            exact h
          · have HN0 : Rows w8 (W.alloc (.cells #[.string xa] 9)) ((.slice (some ⟨W.heap.size, 0, none⟩) 1 1, [xa]) :: ([] ++ [])) := HR.out.alloc _ (SRow.one W xa HR.out.bel.size) rfl
            have HN : Hid (Rows w8 (W.alloc (.cells #[.string xa] 9)) [(.slice (some ⟨W.heap.size, 0, none⟩) 1 1, [xa])]) := HN0.back
            clear HN0
            go_simp
            refine hK.out _ _ ?_ (fun hHeld => ?_)
            · (try dsimp only); exact HS11.out _ HN.out.bel
            clear hK K hHeld
            (try simp only [List.setIfInBounds_toArray, List.set_cons_zero, List.set_cons_succ])
            have h := HOUT.out _ _ _ _ _ _ _ _ _ _ _ (St00100000.out _ _ HN.out)
            simp only [List.setIfInBounds_toArray, List.set_cons_zero, List.set_cons_succ] at h
            exact h
          · have HN0 : Rows w8 (W.alloc (.cells #[] 9)) ((.slice (some ⟨W.heap.size, 0, none⟩) 0 0, []) :: ([] ++ [])) := HR.out.alloc _ (SRow.empty W HR.out.bel.size) rfl
            have HN : Hid (Rows w8 (W.alloc (.cells #[] 9)) [(.slice (some ⟨W.heap.size, 0, none⟩) 0 0, [])]) := HN0.back
            clear HN0
            go_simp
            refine hK.out _ _ ?_ (fun hHeld => ?_)
            · (try dsimp only); exact HS11.out _ HN.out.bel
            clear hK K hHeld
            (try simp only [List.setIfInBounds_toArray, List.set_cons_zero, List.set_cons_succ])
            have h := HOUT.out _ _ _ _ _ _ _ _ _ _ _ (St00001000.out _ _ HN.out)
            simp only [List.setIfInBounds_toArray, List.set_cons_zero, List.set_cons_succ] at h
            exact h
          · have HN0 : Rows w8 (W.alloc (.cells #[.string nm] 9)) ((.slice (some ⟨W.heap.size, 0, none⟩) 1 1, [nm]) :: ([] ++ [])) := HR.out.alloc _ (SRow.one W nm HR.out.bel.size) rfl
            have HN : Hid (Rows w8 (W.alloc (.cells #[.string nm] 9)) [(.slice (some ⟨W.heap.size, 0, none⟩) 1 1, [nm])]) := HN0.back
            clear HN0
            go_simp
            refine hK.out _ _ ?_ (fun hHeld => ?_)
            · (try dsimp only); exact HS11.out _ HN.out.bel
            clear hK K hHeld
            (try simp only [List.setIfInBounds_toArray, List.set_cons_zero, List.set_cons_succ])
            have h := HOUT.out _ _ _ _ _ _ _ _ _ _ _ (St00000010.out _ _ HN.out)
            simp only [List.setIfInBounds_toArray, List.set_cons_zero, List.set_cons_succ] at h
            exact h
        exact St00000000.out _ (Rows.start w8)
end Go.Proofs.Ytoihkjnfklogpaa
