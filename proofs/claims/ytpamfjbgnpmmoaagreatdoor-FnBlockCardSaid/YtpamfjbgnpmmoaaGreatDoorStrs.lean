/- Slices of texts: rows that a call makes itself, rows that are only read, and the contracts of the laws' small functions on them. -/
import Derived.Test.YtpamfjbgnpmmoaaGreatDoorProg
import Derived.Test.YtpamfjbgnpmmoaaGreatDoorRow
import Derived.WalkKit
import Derived.WalkSpells
import Derived.WalkLawsBesides
import Derived.OwnWalk
import Derived.Laws.OwnMore
import Derived.Lib.Strings
import Derived.Lib.Hide
import Derived.IntWalk
import Derived.Deep.QuietTactic
import Derived.BigQuiet
import Derived.Deep.RegionHeld3
import Derived.Deep.RegionWith
import Derived.Laws.IdiomStrings
import Derived.Outline
namespace Go.Proofs.YtpamfjbgnpmmoaaGreatDoor
open Go.RowKit

theorem toList_inj (a b : ByteArray) : (a.toList == b.toList) = decide (a = b) := by
  rw [Bool.eq_iff_iff, Lib.toList_data, Lib.toList_data]
  simp only [beq_iff_eq, decide_eq_true_eq]
  constructor
  · intro h
    cases a; cases b
    congr 1
    exact Array.toList_inj.1 h
  · rintro rfl; rfl

theorem _root_.Go.RowKit.Below.drewN {B : Nat} {a w : World} (h : Below B a w) (n : Nat) : Below B a (w.drewN n) := ⟨h.os, h.tape, h.output, h.size, h.block⟩

/-- A list has a text. -/
def hasS (l : List ByteArray) (s : ByteArray) : Bool := l.any fun a => a.toList == s.toList

theorem hasS_iff {l : List ByteArray} {s : ByteArray} : hasS l s = true ↔ s ∈ l := by
  unfold hasS
  simp only [List.any_eq_true, toList_inj, decide_eq_true_eq]
  constructor
  · rintro ⟨x, hx, rfl⟩; exact hx
  · intro h; exact ⟨s, h, rfl⟩

theorem hasS_false {l : List ByteArray} {s : ByteArray} : hasS l s = false ↔ s ∉ l := by
  rw [← hasS_iff]; simp

/-- A slice of texts that can be read. -/
def Strs (w : World) (o : Option Addr) (n : Nat) (l : List ByteArray) : Prop :=
  n = l.length ∧ (l = [] ∨ ∃ b off, o = some ⟨b, off, none⟩ ∧ ∀ i s, l[i]? = some s → w.cell? ⟨b, off + i, none⟩ = some (.string s))

theorem Strs.at {w : World} {o : Option Addr} {n : Nat} {l : List ByteArray} (h : Strs w o n l) {k : Nat} (hk : k < n) : ∃ b off s, o = some ⟨b, off, none⟩ ∧ l[k]? = some s ∧ w.cell? ⟨b, off + k, none⟩ = some (.string s) := by
  obtain ⟨hn, h | ⟨b, off, ho, hc⟩⟩ := h
  · subst h; simp at hn; omega
  · have : k < l.length := by omega
    exact ⟨b, off, l[k], ho, by simp [this], hc k _ (by simp [this])⟩

theorem Strs.keep {w w' : World} {o : Option Addr} {n : Nat} {l : List ByteArray} (h : Strs w o n l) (hb : Below w.heap.size w w') : Strs w' o n l := by
  obtain ⟨hn, h | ⟨b, off, ho, hc⟩⟩ := h
  · exact ⟨hn, .inl h⟩
  · exact ⟨hn, .inr ⟨b, off, ho, fun i s hi => (hb.cell (lt_of_cell (hc i s hi))).trans (hc i s hi)⟩⟩

theorem Strs.drew {w : World} {o : Option Addr} {n : Nat} {l : List ByteArray} (h : Strs w o n l) : Strs w.drew o n l := h

theorem Strs.nil (w : World) (o : Option Addr) : Strs w o 0 [] := ⟨rfl, .inl rfl⟩

/-- A slice of texts in a row of the call's own, from block 'base' on. -/
def SRow (w : World) (base : Nat) (v : Value) (l : List ByteArray) : Prop := w.ownsRow base 9 1 v l.length (l.map Value.string)

theorem SRow.nil (w : World) (base : Nat) : SRow w base (.slice none 0 0) [] := World.ownsRow_nil _ _ _ _

theorem SRow.keep {w w' : World} {base : Nat} {v : Value} {l : List ByteArray} (h : SRow w base v l) (hk : ∀ b, v.ownBlock = some b → w'.heap[b]? = w.heap[b]?) : SRow w' base v l := by
  refine ⟨h.1, ?_⟩
  rcases h.2 with h | ⟨g, cap, cur, hv, hb, hg, r⟩
  · exact .inl h
  · exact .inr ⟨g, cap, cur, hv, hb, by rw [hk g (by rw [hv]; rfl)]; exact hg, r⟩

theorem SRow.lt {w : World} {base : Nat} {v : Value} {l : List ByteArray} (h : SRow w base v l) : ∀ k, v.ownBlock = some k → base ≤ k ∧ k < w.heap.size := World.ownsRow.lt h

theorem SRow.below {w w' : World} {base : Nat} {v : Value} {l : List ByteArray} (h : SRow w base v l) (hb : Below w.heap.size w w') : SRow w' base v l :=
  h.keep fun k hk => hb.block k (h.lt k hk).2

theorem SRow.kind {w : World} {base : Nat} {v : Value} {l : List ByteArray} (h : SRow w base v l) {g : Nat} (hg : v.ownBlock = some g) : ∃ cur, w.heap[g]? = some (.cells cur 9 (0, 0)) := by
  rcases h.2 with ⟨hv, _⟩ | ⟨g', cap, cur, hv, _, hgg, _⟩
  · rw [hv] at hg; simp [Value.ownBlock] at hg
  · rw [hv] at hg; simp [Value.ownBlock] at hg; subst hg; exact ⟨cur, hgg⟩

theorem SRow.alloc {w : World} {base : Nat} {v : Value} {l : List ByteArray} (h : SRow w base v l) (o : Obj) : SRow (w.alloc o) base v l := World.ownsRow.alloc h o

theorem SRow.drew {w : World} {base : Nat} {v : Value} {l : List ByteArray} (h : SRow w base v l) : SRow w.drew base v l := h

theorem SRow.setCell {w : World} {base : Nat} {v : Value} {l : List ByteArray} (h : SRow w base v l) {a : Addr} (ha : v.ownBlock ≠ some a.block) (u : Value) : SRow (w.setCell a u) base v l :=
  h.keep fun k hk => Below.heap_setCell _ _ _ _ fun e => ha (by rw [hk, e])

theorem SRow.mono {w : World} {base base' : Nat} {v : Value} {l : List ByteArray} (h : SRow w base v l) (hb : base' ≤ base) : SRow w base' v l := by
  refine ⟨h.1, ?_⟩
  rcases h.2 with h | ⟨g, cap, cur, hv, hg, r⟩
  · exact .inl h
  · exact .inr ⟨g, cap, cur, hv, Nat.le_trans hb hg, r⟩

/-- 'append' onto another row, or the call's own work, leaves it. -/
theorem SRow.grown {w w' : World} {base : Nat} {v : Value} {l : List ByteArray} {row : Option Nat} (h : SRow w base v l) (hg : w.grownBy w' row) (hne : v.ownBlock = none ∨ v.ownBlock ≠ row) : SRow w' base v l := World.ownsRow.kept h hg hne

theorem SRow.forms {w : World} {base : Nat} {v : Value} {l : List ByteArray} (h : SRow w base v l) : ∃ o c, v = .slice o l.length c ∧ Strs w o l.length l := by
  rcases h.2 with ⟨hv, hn⟩ | ⟨g, cap, cur, hv, _⟩
  · have hl : l = [] := List.eq_nil_of_length_eq_zero hn
    subst hl
    exact ⟨none, 0, hv, rfl, .inl rfl⟩
  · refine ⟨some ⟨g, 0, none⟩, cap, hv, rfl, .inr ⟨g, 0, rfl, fun i s hi => ?_⟩⟩
    have := World.ownsRow.cells h (g := g) (by rw [hv]; rfl) i (.string s) (by simp [hi])
    rw [Addr.add_lit] at this
    exact this

theorem SRow.empty (w : World) {base : Nat} (hb : base ≤ w.heap.size) : SRow (w.alloc (.cells #[] 9)) base (.slice (some ⟨w.heap.size, 0, none⟩) 0 0) [] :=
  World.ownsRow_lit w #[] 0 hb (by simp [maxLen]) rfl

theorem SRow.lit (w : World) {base : Nat} (hb : base ≤ w.heap.size) (l : List ByteArray) (hl : l.length ≤ 1000000000) : SRow (w.alloc (.cells (l.map Value.string).toArray 9)) base (.slice (some ⟨w.heap.size, 0, none⟩) l.length l.length) l := by
  have := World.ownsRow_lit (base := base) (e := 9) (size := 1) w (l.map Value.string).toArray l.length hb (by simp only [maxLen]; omega) (by simp)
  unfold SRow
  simpa using this

theorem infoStr : (Tryz.prog.info? 9).map (fun i => (i.zero, i.size, i.bytes)) = some (some (.string ⟨#[]⟩), 1, 16) := by kernel_rfl

/-- One text is appended to a row: the text in the box that the call has just laid. -/
theorem wpList_append_str {ops : Array Oper} {rest : List Oper} {o : Oper} {a : Act} {Q : Exit → Act → World → Prop} {W : World} (hgd : o.guard = none) (s x0 : Operand)
    (ho : o.op = .call { callee := .builtin .append, args := #[s, x0], argTypes := #[23, 23] })
    (base : Nat) (v : Value) (hs : a.eval s = v) (l : List ByteArray) (b c : Nat) (hx0 : a.eval x0 = .slice (some ⟨b, 0, none⟩) 1 c) (x : ByteArray) (hb : b = W.heap.size)
    (hrow : SRow W base v l) (hn : l.length ≤ 1000000000) (hbase : base ≤ W.heap.size)
    (h : ∀ g cap w', SRow w' base (.slice (some ⟨g, 0, none⟩) (l.length + 1) cap) (l ++ [x]) → (W.alloc (.cells #[.string x] 9)).grownBy w' v.ownBlock → (v.ownBlock = some g ∨ W.heap.size < g) → wpList Tryz.prog ops Q rest (a.put o.dst (.slice (some ⟨g, 0, none⟩) (l.length + 1) cap)) w') :
    wpList Tryz.prog ops Q (o :: rest) a (W.alloc (.cells #[.string x] 9)) := by
  subst hb
  obtain ⟨i0, hi, hz0, hz1, hz2⟩ := info_parts infoStr
  have hc : (W.alloc (.cells #[.string x] 9)).cell? ⟨W.heap.size, 0, none⟩ = some (.string x) := by simp only [World.cell?, heap_alloc_new]; rfl
  obtain ⟨g, cap, w', hr, k1, k2, k3⟩ := run_append_own2 (P := Tryz.prog) (W.alloc (.cells #[.string x] 9)) base 23 o.type 9 i0 _ 1 16 Tryz.underlying23 hi hz0 hz1 hz2 rfl (by decide) v l.length (l.map Value.string) (World.ownsRow.alloc hrow _) ⟨W.heap.size, 0, none⟩ 1 c [.string x] rfl
    (by intro j u hj
        match j, hj with
        | 0, hj => simp at hj; subst hj; rw [Addr.add_lit]; exact hc)
    (by intro u hu; simp at hu; subst hu; rfl) (by decide) (by simp only [maxLen]; omega) (by omega) (by simp; omega)
  refine wpList_plain hgd fun K hK => ?_
  unfold Oper.wp execOp
  simp only [ho, resolve, invoke, builtin, Sem.run_bind, Sem.run_pure, Result.andThen_ok, List.map_toArray, List.map_cons, List.map_nil, hs, hx0, hr]
  refine hK _ _ (h _ _ w' ?_ k2 ?_)
  · unfold SRow
    simpa using k1
  · rcases k3 with k3 | k3
    · exact .inl k3
    · right; simp at k3; omega


end Go.Proofs.YtpamfjbgnpmmoaaGreatDoor
