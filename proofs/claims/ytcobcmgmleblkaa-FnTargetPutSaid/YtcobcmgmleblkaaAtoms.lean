/- The contracts of the functions that tell of a form's atoms, of the program and of the reference. -/
import Derived.Test.YtcobcmgmleblkaaForm
import Derived.Test.YtcobcmgmleblkaaStrs
import Derived.Shelf.Abstract
import Derived.Maps.OwnOps
import Derived.Maps.OwnSet
import Derived.Maps.Views
namespace Go.Proofs.Ytcobcmgmleblkaa
open Go.RowKit

mutual
/-- All atoms of a tree, in order. -/
def Tree.atoms : Tree → List ByteArray
  | .node a ps => if ps.isEmpty then [a] else Tree.atomsL ps
def Tree.atomsL : List Tree → List ByteArray
  | [] => []
  | p :: ps => p.atoms ++ Tree.atomsL ps
end

/-- A text is added to a list that hasn't it. -/
def addS (l : List ByteArray) (s : ByteArray) : List ByteArray := if hasS l s then l else l ++ [s]

theorem Tree.atomsL_take (ps : List Tree) (k : Nat) (p : Tree) (h : ps[k]? = some p) : Tree.atomsL (ps.take (k + 1)) = Tree.atomsL (ps.take k) ++ p.atoms := by
  induction ps generalizing k with
  | nil => simp at h
  | cons q ps ih =>
    cases k with
    | zero => simp at h; subst h; simp [Tree.atomsL]
    | succ k => simp at h; simp only [List.take_succ_cons, Tree.atomsL, ih k h, List.append_assoc]

mutual
theorem Tree.atoms_le : ∀ t : Tree, t.atoms.length = t.size
  | .node a ps => by
    have := Tree.atomsL_le ps
    simp only [Tree.atoms, Tree.size]
    split
    · rfl
    · exact this
theorem Tree.atomsL_le : ∀ ps : List Tree, (Tree.atomsL ps).length = Tree.sizeL ps
  | [] => rfl
  | p :: ps => by
    have := Tree.atoms_le p
    have := Tree.atomsL_le ps
    simp only [Tree.atomsL, Tree.sizeL, List.length_append]; omega
end

theorem Tree.mem_atomsL (ps : List Tree) (k : Nat) (p : Tree) (h : ps[k]? = some p) (s : ByteArray) (hs : s ∈ p.atoms) : s ∈ Tree.atomsL ps := by
  induction ps generalizing k with
  | nil => simp at h
  | cons q ps ih =>
    simp only [Tree.atomsL, List.mem_append]
    cases k with
    | zero => simp at h; subst h; exact .inl hs
    | succ k => simp at h; exact .inr (ih k h)

mutual
theorem Tree.atoms_size : ∀ (t : Tree) (s : ByteArray), s ∈ t.atoms → s.size ≤ t.text.length
  | .node a ps, s, h => by
    simp only [Tree.atoms] at h
    simp only [Tree.text]
    split at h
    · rename_i he
      simp only [List.mem_singleton] at h
      subst h
      rw [if_pos he, ← Lib.size_eq]; exact Nat.le_refl _
    · rename_i he
      rw [if_neg he]
      have := Tree.atomsL_size ps s h
      simp only [List.length_cons]; omega
theorem Tree.atomsL_size : ∀ (ps : List Tree) (s : ByteArray), s ∈ Tree.atomsL ps → s.size ≤ (Tree.textL ps).length
  | [], s, h => by simp [Tree.atomsL] at h
  | p :: ps, s, h => by
    simp only [Tree.atomsL, List.mem_append] at h
    rw [textL_cons, List.length_append]
    rcases h with h | h
    · have := Tree.atoms_size p s h; omega
    · have := Tree.atomsL_size ps s h
      cases ps with
      | nil => simp [Tree.atomsL] at h
      | cons q ps => simp only [List.isEmpty_cons, Bool.false_eq_true, if_false, List.length_cons]; omega
end

theorem addS_has {l : List ByteArray} {s : ByteArray} (h : hasS l s = true) : addS l s = l := by unfold addS; rw [if_pos h]
theorem addS_new {l : List ByteArray} {s : ByteArray} (h : hasS l s = false) : addS l s = l ++ [s] := by unfold addS; rw [if_neg (by rw [h]; decide)]

theorem addS_len (l : List ByteArray) (s : ByteArray) : (addS l s).length ≤ l.length + 1 := by unfold addS; split <;> simp

theorem foldAdd_len (m l : List ByteArray) : (m.foldl addS l).length ≤ l.length + m.length := by
  induction m generalizing l with
  | nil => simp
  | cons s m ih => have := ih (addS l s); have := addS_len l s; simp only [List.foldl_cons, List.length_cons]; omega

theorem Tree.szL_take (ps : List Tree) (k : Nat) (p : Tree) (h : ps[k]? = some p) : Tree.sizeL (ps.take k) + p.sz ≤ Tree.szL ps := by
  induction ps generalizing k with
  | nil => simp at h
  | cons q ps ih =>
    have := Tree.size_le_sz q
    cases k with
    | zero => simp at h; subst h; simp [Tree.sizeL, Tree.szL]
    | succ k => simp at h; have := ih k h; simp only [List.take_succ_cons, Tree.sizeL, Tree.szL]; omega

theorem _root_.Go.World.grownBy.via {a b c : World} {r r' : Option Nat} (h : a.grownBy b r) (g : b.grownBy c r') (hr : ∀ k, r' = some k → r = some k ∨ a.heap.size ≤ k) : a.grownBy c r := by
  refine ⟨g.os.trans h.os, g.tape.trans h.tape, g.output.trans h.output, Nat.le_trans h.size g.size, fun k hk hne => ?_⟩
  rw [g.block k (Nat.lt_of_lt_of_le hk h.size) ?_, h.block k hk hne]
  intro e
  rcases hr k e.symm with h1 | h1
  · exact hne h1.symm
  · omega

theorem _root_.Go.World.grownBy.of_below {a b : World} (h : Below a.heap.size a b) (r : Option Nat) : a.grownBy b r := ⟨h.os, h.tape, h.output, h.size, fun k hk _ => h.block k hk⟩

theorem _root_.Go.World.grownBy.to_below {a b : World} {r : Option Nat} (h : a.grownBy b r) {B : Nat} (hB : B ≤ a.heap.size) (hr : ∀ k, r = some k → B ≤ k) : Below B a b := ⟨h.os, h.tape, h.output, h.size, fun k hk => h.block k (by omega) (fun e => by have := hr k e.symm; omega)⟩

theorem Keeps.grown {A : Nat → Prop} {w w' : World} {r : Option Nat} (h : w.grownBy w' r) (hA : ∀ b, A b → some b ≠ r) : Keeps A w w' :=
  fun b _ _ ha hc => h.cell hc (hA b ha)

/-- What a call that adds to a row of texts hands back. -/
def AddedR (w : World) (base : Nat) (v : Value) (l : List ByteArray) (e : Ending) (w' : World) : Prop :=
  ∃ v', e = .returned v' ∧ SRow w' base v' l ∧ w.grownBy w' v.ownBlock ∧ (∀ k, v'.ownBlock = some k → v.ownBlock = some k ∨ w.heap.size ≤ k)


/-- Every block of forms stands as it stood. -/
def FormsKept (w w' : World) : Prop := ∀ (k : Nat) (c : Array Value) (fz : Nat × Nat), w.heap[k]? = some (.cells c 38 fz) → w'.heap[k]? = some (.cells c 38 fz)

theorem FormsKept.below {w w' : World} (h : Below w.heap.size w w') : FormsKept w w' := fun k _ _ hk => (h.block k (Array.getElem?_eq_some_iff.1 hk).1).trans hk

theorem FormsKept.trans {a b c : World} (h : FormsKept a b) (g : FormsKept b c) : FormsKept a c := fun k x fz hk => g k x fz (h k x fz hk)

theorem FormsKept.cell {w w' : World} (h : FormsKept w w') {b : Nat} {x y : Value} (hb : w.heap[b]? = some (.cells #[x, y] 38 (0, 0))) : w'.heap[b]? = some (.cells #[x, y] 38 (0, 0)) ∧ w'.cell? ⟨b, 0, none⟩ = some x ∧ w'.cell? ⟨b, 1, none⟩ = some y := by
  have h1 := h b _ _ hb
  exact ⟨h1, by simp only [World.cell?, h1]; rfl, by simp only [World.cell?, h1]; rfl⟩

theorem box_at {w w1 : World} {o : Obj} (h : Below (w.alloc o).heap.size (w.alloc o) w1) : w1.heap[w.heap.size]? = some o := (h.block _ (by simp)).trans (heap_alloc_new w o)

theorem box_cells {w : World} {b : Nat} {x y : Value} {ty : TypeId} (h : w.heap[b]? = some (.cells #[x, y] ty (0, 0))) : w.cell? ⟨b, 0, none⟩ = some x ∧ w.cell? ⟨b, 1, none⟩ = some y :=
  ⟨by simp only [World.cell?, h]; rfl, by simp only [World.cell?, h]; rfl⟩

/-- What a function that is told of atoms keeps: I says what it has been told so far. -/
def ToldR (I : List ByteArray → World → Prop) (B : Nat) (l : List ByteArray) (w : World) (e : Ending) (w' : World) : Prop :=
  e = .returned (.tuple #[]) ∧ I l w' ∧ Below B w w' ∧ FormsKept w w'

set_option maxRecDepth 100000 in
set_option maxHeartbeats 800000 in
theorem atoms_any (K : FuncId) (he : ∀ args w, (callFunc K args).run Try.prog w = .ok (.enter K args) w) (caps : Array Value) (I : List ByteArray → World → Prop) (B : Nat) (M : Nat)
    (hI : ∀ l w w', I l w → Below w.heap.size w w' → I l w') (hB : ∀ l w, I l w → B ≤ w.heap.size)
    (hK : ∀ l s w, I l w → l.length ≤ M → s.size ≤ 1000000000 → Calls Try.prog K (#[.string s] ++ caps) w (ToldR I B (l ++ [s]) w)) (n : Nat) :
    ∀ (t : Tree) (A : Nat → Prop) (v : Value) (l : List ByteArray) (w : World), t.sz ≤ n → Rep w A t v → (∀ b, A b → b < B) → I l w → l.length + t.size ≤ M → t.sz ≤ 1000000000 → (∀ s ∈ t.atoms, s.size ≤ 1000000000) →
    Calls Try.prog 50 #[v, .func (Fn.func K) #[] caps] w (ToldR I B (l ++ t.atoms) w) := by
  induction n with
  | zero => intro t A v l w h; cases t; simp [Tree.sz] at h
  | succ n ih =>
    intro t A v l w hn hr hA hi hm hb hsz
    obtain ⟨s, ps⟩ := t
    simp only [Rep] at hr
    obtain ⟨o, ln, c, rfl, hs, hcap⟩ := hr
    obtain rfl := hs.len
    have hB0 : B ≤ w.heap.size := hB _ _ hi
    have e : ∀ args w, (callFunc K args).run Try.prog w = .ok (.enter K args) w := he
    have bel0 : Below w.heap.size w (w.alloc (.cells #[.string s, .slice o ps.length c] 38)) := (Below.refl _ _).alloc (Nat.le_refl _) _
    by_cases hp : ps = []
    · subst hp
      have ht : l ++ (Tree.node s []).atoms = l ++ [s] := by simp [Tree.atoms]
      rw [ht]
      clear ht
      go_enter Try.func50, Try.ntmps50
      go_wp2_with fail
      refine (isAtom_any _ _ _ _ _).mono ?_
      rintro e w1 ⟨rfl, hb1⟩
      have hx := box_at hb1
      obtain ⟨c0, c1⟩ := box_cells hx
      have hw1 : Below w.heap.size w w1 := bel0.trans (hb1.mono (by simp))
      have HC := Lib.hid (hK l s w1 (hI _ _ _ hi hw1) (by simp [Tree.size] at hm; omega) (hsz s (by simp [Tree.atoms])))
      have HX := Lib.hid hx
      clear hK hx hb1 ih
      go_wp2_with (go_at_fn K; refine HC.out.mono ?_; rintro e w2 ⟨rfl, hi2, hb2, hf2⟩; obtain ⟨hx2, d0, d1⟩ := hf2.cell HX.out)
      refine wp_loop_rounds 1 ?_
      rw [rounds_succ]
      go_wp2
      go_end0
      exact ⟨rfl, hi2, (hw1.mono hB0).trans hb2, (FormsKept.below hw1).trans hf2⟩
    · have hlen : ((ps.length : Int) == 0) = false := by simpa using hp
      have ht : (Tree.node s ps).atoms = Tree.atomsL ps := by simp [Tree.atoms, hp]
      have hts : (Tree.node s ps).size = Tree.sizeL ps := by simp [Tree.size, hp]
      rw [ht]
      rw [hts] at hm
      have HSZ := Lib.hid (show ∀ (p : Tree) (k : Nat), ps[k]? = some p → ∀ s ∈ p.atoms, s.size ≤ 1000000000 from fun (p : Tree) k hp s hs => hsz s (by rw [ht]; exact Tree.mem_atomsL ps k p hp s hs))
      clear hsz
      have hl2 := Tree.length_le_szL ps
      simp only [Tree.sz] at hb hn
      clear ht hts hp
      go_enter Try.func50, Try.ntmps50
      go_wp2_with fail
      refine (isAtom_any _ _ _ _ _).mono ?_
      rintro e w1 ⟨rfl, hb1⟩
      have hx := box_at hb1
      obtain ⟨c0, c1⟩ := box_cells hx
      have hw1 : Below w.heap.size w w1 := bel0.trans (hb1.mono (by simp))
      have hi1 := hI _ _ _ hi hw1
      have HI1 := Lib.hid hi1
      clear hx hb1 hi1 hi
      go_wp2
      go_loopw [15] (fun iv wr => ∃ k : Nat, k ≤ ps.length ∧ iv = .int .i64 k ∧ Hid (I (l ++ Tree.atomsL (ps.take k)) wr) ∧ Below B w wr ∧ FormsKept w wr) (fun iv _ => ps.length - (intOf iv).toNat)
      case atStart => exact ⟨0, Nat.zero_le _, rfl, by simpa [Tree.atomsL] using HI1, hw1.mono hB0, FormsKept.below hw1⟩
      case round =>
        obtain ⟨k, hk, rfl, HI, hbr, hfr⟩ := hrel
        by_cases hlt : k < ps.length
        · obtain ⟨p, hp⟩ : ∃ p, ps[k]? = some p := ⟨ps[k], by simp [hlt]⟩
          obtain ⟨b, off, o', n', c', rfl, -, hx, hy, hrp⟩ := (RepS.keep (Keeps.below' hbr hA) _ _ _ hs).partAt hp
          have h1 := Tree.atomsL_take ps k p hp
          have h2 := Tree.sizeL_take ps k p hp
          have h2' := Tree.sizeL_take_le ps (k + 1)
          have h3 : p.sz ≤ n := by have := Tree.sz_part ps k p hp; omega
          have h5 := Tree.szL_take ps k p hp
          have h6 := Tree.atomsL_le (ps.take k)
          have hBr := hB _ _ HI.out
          have bel1 : ∀ o, Below wr.heap.size wr (wr.alloc o) := fun o => (Below.refl _ _).alloc (Nat.le_refl _) _
          have HC := Lib.hid (fun o => ih p A _ (l ++ Tree.atomsL (ps.take k)) (wr.alloc o) h3 (Rep.keep (Keeps.alloc _ _ _) _ _ hrp) hA (hI _ _ _ HI.out (bel1 o)) (by rw [List.length_append, h6]; omega) (by omega) (HSZ.out p k hp))
          rw [List.append_assoc, ← h1] at HC
          clear h1 h2 h2' h3 h5 h6 hp hrp ih
          go_wp2_with fail
          refine (HC.out _).mono ?_
          rintro e w2 ⟨rfl, hi2, hb2, hf2⟩
          have HI2 := Lib.hid hi2
          have hB2 := (hbr.trans ((bel1 (.cells #[.string p.atom, .slice o' n' c'] 38)).mono hBr)).trans hb2
          have hF2 := (hfr.trans (FormsKept.below (bel1 (.cells #[.string p.atom, .slice o' n' c'] 38)))).trans hf2
          clear hi2 HC hb2 hf2
          go_wp2
          go_roundw
          case rel => exact ⟨k + 1, by omega, by go_num, HI2, hB2, hF2⟩
          case measure => simp [intOf]; omega
        · have hkn : k = ps.length := by omega
          have HF : Hid (I (l ++ Tree.atomsL ps) wr) := by
            show I _ _
            have := HI.out
            rwa [hkn, List.take_length] at this
          go_wp2
          go_end0
          exact ⟨rfl, HF.out, hbr, hfr⟩


/-- What a function that hands back texts, or none, hands back: 'res' is what it has. -/
def TextsR (res : Option (List ByteArray)) (w : World) (e : Ending) (w' : World) : Prop :=
  ∃ v, e = .returned (.tuple #[v, .bool res.isSome]) ∧ SRow w' w.heap.size v (res.getD []) ∧ Below w.heap.size w w'

/-- The different atoms of a text. -/
def atomsOf (s : List UInt8) : Option (List ByteArray) := (parse s).map fun t => t.atoms.foldl addS []


theorem atomsOf_len (s : List UInt8) : ((atomsOf s).getD []).length ≤ 1000000 := by
  unfold atomsOf
  cases hp : parse s with
  | none => simp
  | some t =>
    have h1 := parse_sz hp
    have h2 := Tree.atoms_le t
    have h3 := Tree.size_le_sz t
    have h4 := foldAdd_len t.atoms []
    simp only [Option.map_some, Option.getD_some]
    simp at h4
    omega
end Go.Proofs.Ytcobcmgmleblkaa
