/- The contracts of the functions that tell of a form's atoms, of the program and of the reference. -/
import Derived.Test.YtoihkjnfklogpaaQ3
import Derived.Test.YtoihkjnfklogpaaStrs
import Derived.Shelf.Abstract
import Derived.Maps.OwnOps
import Derived.Maps.OwnSet
import Derived.Maps.Views
namespace Go.Proofs.Ytoihkjnfklogpaa
open Go.RowKit

mutual
/-- All atoms of a tree, in order. -/
def Tree.atoms : Tree → List ByteArray
  | .node a ps => if ps.isEmpty then [a] else Tree.atomsL ps
def Tree.atomsL : List Tree → List ByteArray
  | [] => []
  | p :: ps => p.atoms ++ Tree.atomsL ps
end

/-- A text is added to a list that hasn't it. -/
def addS (l : List ByteArray) (s : ByteArray) : List ByteArray := if hasS l s then l else l ++ [s]

theorem Tree.atomsL_take (ps : List Tree) (k : Nat) (p : Tree) (h : ps[k]? = some p) : Tree.atomsL (ps.take (k + 1)) = Tree.atomsL (ps.take k) ++ p.atoms := by
  induction ps generalizing k with
  | nil => simp at h
  | cons q ps ih =>
    cases k with
    | zero => simp at h; subst h; simp [Tree.atomsL]
    | succ k => simp at h; simp only [List.take_succ_cons, Tree.atomsL, ih k h, List.append_assoc]

mutual
theorem Tree.atoms_le : ∀ t : Tree, t.atoms.length = t.size
  | .node a ps => by
    have := Tree.atomsL_le ps
    simp only [Tree.atoms, Tree.size]
    split
    · rfl
    · exact this
theorem Tree.atomsL_le : ∀ ps : List Tree, (Tree.atomsL ps).length = Tree.sizeL ps
  | [] => rfl
  | p :: ps => by
    have := Tree.atoms_le p
    have := Tree.atomsL_le ps
    simp only [Tree.atomsL, Tree.sizeL, List.length_append]; omega
end

theorem Tree.mem_atomsL (ps : List Tree) (k : Nat) (p : Tree) (h : ps[k]? = some p) (s : ByteArray) (hs : s ∈ p.atoms) : s ∈ Tree.atomsL ps := by
  induction ps generalizing k with
  | nil => simp at h
  | cons q ps ih =>
    simp only [Tree.atomsL, List.mem_append]
    cases k with
    | zero => simp at h; subst h; exact .inl hs
    | succ k => simp at h; exact .inr (ih k h)

mutual
theorem Tree.atoms_size : ∀ (t : Tree) (s : ByteArray), s ∈ t.atoms → s.size ≤ t.text.length
  | .node a ps, s, h => by
    simp only [Tree.atoms] at h
    simp only [Tree.text]
    split at h
    · rename_i he
      simp only [List.mem_singleton] at h
      subst h
      rw [if_pos he, ← Lib.size_eq]; exact Nat.le_refl _
    · rename_i he
      rw [if_neg he]
      have := Tree.atomsL_size ps s h
      simp only [List.length_cons]; omega
theorem Tree.atomsL_size : ∀ (ps : List Tree) (s : ByteArray), s ∈ Tree.atomsL ps → s.size ≤ (Tree.textL ps).length
  | [], s, h => by simp [Tree.atomsL] at h
  | p :: ps, s, h => by
    simp only [Tree.atomsL, List.mem_append] at h
    rw [textL_cons, List.length_append]
    rcases h with h | h
    · have := Tree.atoms_size p s h; omega
    · have := Tree.atomsL_size ps s h
      cases ps with
      | nil => simp [Tree.atomsL] at h
      | cons q ps => simp only [List.isEmpty_cons, Bool.false_eq_true, if_false, List.length_cons]; omega
end

theorem addS_has {l : List ByteArray} {s : ByteArray} (h : hasS l s = true) : addS l s = l := by unfold addS; rw [if_pos h]
theorem addS_new {l : List ByteArray} {s : ByteArray} (h : hasS l s = false) : addS l s = l ++ [s] := by unfold addS; rw [if_neg (by rw [h]; decide)]

theorem addS_len (l : List ByteArray) (s : ByteArray) : (addS l s).length ≤ l.length + 1 := by unfold addS; split <;> simp

theorem foldAdd_len (m l : List ByteArray) : (m.foldl addS l).length ≤ l.length + m.length := by
  induction m generalizing l with
  | nil => simp
  | cons s m ih => have := ih (addS l s); have := addS_len l s; simp only [List.foldl_cons, List.length_cons]; omega

theorem Tree.szL_take (ps : List Tree) (k : Nat) (p : Tree) (h : ps[k]? = some p) : Tree.sizeL (ps.take k) + p.sz ≤ Tree.szL ps := by
  induction ps generalizing k with
  | nil => simp at h
  | cons q ps ih =>
    have := Tree.size_le_sz q
    cases k with
    | zero => simp at h; subst h; simp [Tree.sizeL, Tree.szL]
    | succ k => simp at h; have := ih k h; simp only [List.take_succ_cons, Tree.sizeL, Tree.szL]; omega

theorem _root_.Go.World.grownBy.via {a b c : World} {r r' : Option Nat} (h : a.grownBy b r) (g : b.grownBy c r') (hr : ∀ k, r' = some k → r = some k ∨ a.heap.size ≤ k) : a.grownBy c r := by
  refine ⟨g.os.trans h.os, g.tape.trans h.tape, g.output.trans h.output, Nat.le_trans h.size g.size, fun k hk hne => ?_⟩
  rw [g.block k (Nat.lt_of_lt_of_le hk h.size) ?_, h.block k hk hne]
  intro e
  rcases hr k e.symm with h1 | h1
  · exact hne h1.symm
  · omega

theorem _root_.Go.World.grownBy.of_below {a b : World} (h : Below a.heap.size a b) (r : Option Nat) : a.grownBy b r := ⟨h.os, h.tape, h.output, h.size, fun k hk _ => h.block k hk⟩

theorem _root_.Go.World.grownBy.to_below {a b : World} {r : Option Nat} (h : a.grownBy b r) {B : Nat} (hB : B ≤ a.heap.size) (hr : ∀ k, r = some k → B ≤ k) : Below B a b := ⟨h.os, h.tape, h.output, h.size, fun k hk => h.block k (by omega) (fun e => by have := hr k e.symm; omega)⟩

theorem Keeps.grown {A : Nat → Prop} {w w' : World} {r : Option Nat} (h : w.grownBy w' r) (hA : ∀ b, A b → some b ≠ r) : Keeps A w w' :=
  fun b _ _ ha hc => h.cell hc (hA b ha)

/-- What a call that adds to a row of texts hands back. -/
def AddedR (w : World) (base : Nat) (v : Value) (l : List ByteArray) (e : Ending) (w' : World) : Prop :=
  ∃ v', e = .returned v' ∧ SRow w' base v' l ∧ w.grownBy w' v.ownBlock ∧ (∀ k, v'.ownBlock = some k → v.ownBlock = some k ∨ w.heap.size ≤ k)


/-- Every block of forms stands as it stood. -/
def FormsKept (w w' : World) : Prop := ∀ (k : Nat) (c : Array Value) (fz : Nat × Nat), w.heap[k]? = some (.cells c 46 fz) → w'.heap[k]? = some (.cells c 46 fz)

theorem FormsKept.below {w w' : World} (h : Below w.heap.size w w') : FormsKept w w' := fun k _ _ hk => (h.block k (Array.getElem?_eq_some_iff.1 hk).1).trans hk

theorem FormsKept.trans {a b c : World} (h : FormsKept a b) (g : FormsKept b c) : FormsKept a c := fun k x fz hk => g k x fz (h k x fz hk)

theorem FormsKept.cell {w w' : World} (h : FormsKept w w') {b : Nat} {x y : Value} (hb : w.heap[b]? = some (.cells #[x, y] 46 (0, 0))) : w'.heap[b]? = some (.cells #[x, y] 46 (0, 0)) ∧ w'.cell? ⟨b, 0, none⟩ = some x ∧ w'.cell? ⟨b, 1, none⟩ = some y := by
  have h1 := h b _ _ hb
  exact ⟨h1, by simp only [World.cell?, h1]; rfl, by simp only [World.cell?, h1]; rfl⟩

theorem box_at {w w1 : World} {o : Obj} (h : Below (w.alloc o).heap.size (w.alloc o) w1) : w1.heap[w.heap.size]? = some o := (h.block _ (by simp)).trans (heap_alloc_new w o)

theorem box_cells {w : World} {b : Nat} {x y : Value} {ty : TypeId} (h : w.heap[b]? = some (.cells #[x, y] ty (0, 0))) : w.cell? ⟨b, 0, none⟩ = some x ∧ w.cell? ⟨b, 1, none⟩ = some y :=
  ⟨by simp only [World.cell?, h]; rfl, by simp only [World.cell?, h]; rfl⟩



/-- What a function that hands back texts, or none, hands back: 'res' is what it has. -/
def TextsR (res : Option (List ByteArray)) (w : World) (e : Ending) (w' : World) : Prop :=
  ∃ v, e = .returned (.tuple #[v, .bool res.isSome]) ∧ SRow w' w.heap.size v (res.getD []) ∧ Below w.heap.size w w'

/-- The different atoms of a text. -/
def atomsOf (s : List UInt8) : Option (List ByteArray) := (parse s).map fun t => t.atoms.foldl addS []


theorem atomsOf_len (s : List UInt8) : ((atomsOf s).getD []).length ≤ 1000000 := by
  unfold atomsOf
  cases hp : parse s with
  | none => simp
  | some t =>
    have h1 := parse_sz hp
    have h2 := Tree.atoms_le t
    have h3 := Tree.size_le_sz t
    have h4 := foldAdd_len t.atoms []
    simp only [Option.map_some, Option.getD_some]
    simp at h4
    omega
end Go.Proofs.Ytoihkjnfklogpaa
