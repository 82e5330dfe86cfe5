/- The contracts of the functions that tell of a form's atoms, of the program and of the reference. -/
import Derived.Test.YtginaebioijcpaaForm
import Derived.Test.YtginaebioijcpaaStrs
import Derived.Shelf.Abstract
import Derived.Maps.OwnOps
import Derived.Maps.OwnSet
import Derived.Maps.Views
namespace Go.Proofs.Ytginaebioijcpaa
open Go.RowKit

mutual
/-- All atoms of a tree, in order. -/
def Tree.atoms : Tree → List ByteArray
  | .node a ps => if ps.isEmpty then [a] else Tree.atomsL ps
def Tree.atomsL : List Tree → List ByteArray
  | [] => []
  | p :: ps => p.atoms ++ Tree.atomsL ps
end

/-- A text is added to a list that hasn't it. -/
def addS (l : List ByteArray) (s : ByteArray) : List ByteArray := if hasS l s then l else l ++ [s]

theorem Tree.atomsL_take (ps : List Tree) (k : Nat) (p : Tree) (h : ps[k]? = some p) : Tree.atomsL (ps.take (k + 1)) = Tree.atomsL (ps.take k) ++ p.atoms := by
  induction ps generalizing k with
  | nil => simp at h
  | cons q ps ih =>
    cases k with
    | zero => simp at h; subst h; simp [Tree.atomsL]
    | succ k => simp at h; simp only [List.take_succ_cons, Tree.atomsL, ih k h, List.append_assoc]

mutual
theorem Tree.atoms_le : ∀ t : Tree, t.atoms.length = t.size
  | .node a ps => by
    have := Tree.atomsL_le ps
    simp only [Tree.atoms, Tree.size]
    split
    · rfl
    · exact this
theorem Tree.atomsL_le : ∀ ps : List Tree, (Tree.atomsL ps).length = Tree.sizeL ps
  | [] => rfl
  | p :: ps => by
    have := Tree.atoms_le p
    have := Tree.atomsL_le ps
    simp only [Tree.atomsL, Tree.sizeL, List.length_append]; omega
end

theorem Tree.mem_atomsL (ps : List Tree) (k : Nat) (p : Tree) (h : ps[k]? = some p) (s : ByteArray) (hs : s ∈ p.atoms) : s ∈ Tree.atomsL ps := by
  induction ps generalizing k with
  | nil => simp at h
  | cons q ps ih =>
    simp only [Tree.atomsL, List.mem_append]
    cases k with
    | zero => simp at h; subst h; exact .inl hs
    | succ k => simp at h; exact .inr (ih k h)

mutual
theorem Tree.atoms_size : ∀ (t : Tree) (s : ByteArray), s ∈ t.atoms → s.size ≤ t.text.length
  | .node a ps, s, h => by
    simp only [Tree.atoms] at h
    simp only [Tree.text]
    split at h
    · rename_i he
      simp only [List.mem_singleton] at h
      subst h
      rw [if_pos he, ← Lib.size_eq]; exact Nat.le_refl _
    · rename_i he
      rw [if_neg he]
      have := Tree.atomsL_size ps s h
      simp only [List.length_cons]; omega
theorem Tree.atomsL_size : ∀ (ps : List Tree) (s : ByteArray), s ∈ Tree.atomsL ps → s.size ≤ (Tree.textL ps).length
  | [], s, h => by simp [Tree.atomsL] at h
  | p :: ps, s, h => by
    simp only [Tree.atomsL, List.mem_append] at h
    rw [textL_cons, List.length_append]
    rcases h with h | h
    · have := Tree.atoms_size p s h; omega
    · have := Tree.atomsL_size ps s h
      cases ps with
      | nil => simp [Tree.atomsL] at h
      | cons q ps => simp only [List.isEmpty_cons, Bool.false_eq_true, if_false, List.length_cons]; omega
end

theorem addS_has {l : List ByteArray} {s : ByteArray} (h : hasS l s = true) : addS l s = l := by unfold addS; rw [if_pos h]
theorem addS_new {l : List ByteArray} {s : ByteArray} (h : hasS l s = false) : addS l s = l ++ [s] := by unfold addS; rw [if_neg (by rw [h]; decide)]

theorem addS_len (l : List ByteArray) (s : ByteArray) : (addS l s).length ≤ l.length + 1 := by unfold addS; split <;> simp

theorem foldAdd_len (m l : List ByteArray) : (m.foldl addS l).length ≤ l.length + m.length := by
  induction m generalizing l with
  | nil => simp
  | cons s m ih => have := ih (addS l s); have := addS_len l s; simp only [List.foldl_cons, List.length_cons]; omega

theorem Tree.szL_take (ps : List Tree) (k : Nat) (p : Tree) (h : ps[k]? = some p) : Tree.sizeL (ps.take k) + p.sz ≤ Tree.szL ps := by
  induction ps generalizing k with
  | nil => simp at h
  | cons q ps ih =>
    have := Tree.size_le_sz q
    cases k with
    | zero => simp at h; subst h; simp [Tree.sizeL, Tree.szL]
    | succ k => simp at h; have := ih k h; simp only [List.take_succ_cons, Tree.sizeL, Tree.szL]; omega

theorem _root_.Go.World.grownBy.via {a b c : World} {r r' : Option Nat} (h : a.grownBy b r) (g : b.grownBy c r') (hr : ∀ k, r' = some k → r = some k ∨ a.heap.size ≤ k) : a.grownBy c r := by
  refine ⟨g.os.trans h.os, g.tape.trans h.tape, g.output.trans h.output, Nat.le_trans h.size g.size, fun k hk hne => ?_⟩
  rw [g.block k (Nat.lt_of_lt_of_le hk h.size) ?_, h.block k hk hne]
  intro e
  rcases hr k e.symm with h1 | h1
  · exact hne h1.symm
  · omega

theorem _root_.Go.World.grownBy.of_below {a b : World} (h : Below a.heap.size a b) (r : Option Nat) : a.grownBy b r := ⟨h.os, h.tape, h.output, h.size, fun k hk _ => h.block k hk⟩

theorem _root_.Go.World.grownBy.to_below {a b : World} {r : Option Nat} (h : a.grownBy b r) {B : Nat} (hB : B ≤ a.heap.size) (hr : ∀ k, r = some k → B ≤ k) : Below B a b := ⟨h.os, h.tape, h.output, h.size, fun k hk => h.block k (by omega) (fun e => by have := hr k e.symm; omega)⟩

theorem Keeps.grown {A : Nat → Prop} {w w' : World} {r : Option Nat} (h : w.grownBy w' r) (hA : ∀ b, A b → some b ≠ r) : Keeps A w w' :=
  fun b _ _ ha hc => h.cell hc (hA b ha)

/-- What a call that adds to a row of texts hands back. -/
def AddedR (w : World) (base : Nat) (v : Value) (l : List ByteArray) (e : Ending) (w' : World) : Prop :=
  ∃ v', e = .returned v' ∧ SRow w' base v' l ∧ w.grownBy w' v.ownBlock ∧ (∀ k, v'.ownBlock = some k → v.ownBlock = some k ∨ w.heap.size ≤ k)

set_option maxRecDepth 100000 in
set_option maxHeartbeats 800000 in
theorem l1Atoms_any (n : Nat) : ∀ (t : Tree) (A : Nat → Prop) (tv v : Value) (l : List ByteArray) (base : Nat) (w : World), t.sz ≤ n → Rep w A t tv → (∀ b, A b → b < base) → SRow w base v l → base ≤ w.heap.size →
    l.length + t.sz ≤ 1000000000 → t.good = true → Calls Try.prog 66 #[tv, v] w (AddedR w base v (t.atoms.foldl addS l)) := by
  induction n with
  | zero => intro t A tv v l base w h; cases t; simp [Tree.sz] at h
  | succ n ih =>
    intro t A tv v l base w hn hr hA hrow hbase hb hgood
    obtain ⟨s, ps⟩ := t
    simp only [Rep] at hr
    obtain ⟨o, ln, c, rfl, hs, hcap⟩ := hr
    obtain rfl := hs.len
    obtain ⟨hgl, hge⟩ := Tree.good_parts hgood
    obtain ⟨vo, vc, rfl, hst⟩ := hrow.forms
    have HROW := Lib.hid hrow
    have HST := Lib.hid hst
    clear hst
    by_cases hp : ps = []
    · subst hp
      have hemp : s.toList.isEmpty = false := by rw [Lib.toList_data]; simpa using hge.1 rfl
      have hemp2 : (s.toList == []) = false := by rw [Lib.toList_data]; simpa using hge.1 rfl
      have ht : (Tree.node s []).atoms.foldl addS l = addS l s := by simp [Tree.atoms]
      rw [ht]
      have hln : l.length ≤ 1000000000 := by simp [Tree.sz, Tree.szL] at hb; omega
      clear ht hge hgl hrow
      by_cases hh : hasS l s = true
      · have HA : Hid (addS l s = l) := by show _ = _; unfold addS; rw [if_pos hh]
        have HH := Lib.hid hh
        clear hh
        go_enter Try.func66, Try.ntmps66
        go_wp2_with fail
        refine (l1Has_any l s _ _ _ _ (HST.out.keep ((Below.refl _ _).alloc (Nat.le_refl _) _)) hln).mono ?_
        rintro e w1 ⟨rfl, rfl⟩
        rw [HH.out]
        go_wp2
        go_ret
        exact ⟨_, rfl, by rw [HA.out]; exact HROW.out.alloc _, World.grownBy_alloc _ _ _, fun k hk => .inl hk⟩
      · have HA : Hid (addS l s = l ++ [s]) := by show _ = _; unfold addS; rw [if_neg hh]
        have HH := Lib.hid (show hasS l s = false by simpa using hh)
        clear hh
        go_enter Try.func66, Try.ntmps66
        go_wp2_with fail
        refine (l1Has_any l s _ _ _ _ (HST.out.keep ((Below.refl _ _).alloc (Nat.le_refl _) _)) hln).mono ?_
        rintro e w1 ⟨rfl, rfl⟩
        rw [HH.out]
        go_wp2_with (at_builtin; refine wpList_append_str rfl (.tmp 14) (.tmp 17) rfl base _ rfl l _ 1 rfl s (by simp) (HROW.out.alloc _) hln (by simp; omega) ?_; intro g2 cap2 w2 hrow2 hg2 hown2)
        go_ret
        refine ⟨.slice (some ⟨g2, 0, none⟩) (l.length + 1) cap2, rfl, by rw [HA.out]; exact hrow2, ?_, ?_⟩
        · exact ((World.grownBy_alloc _ _ _).via (World.grownBy_alloc _ _ none) (fun k h => by cases h)).via hg2 (fun k h => .inl h)
        · intro k hk
          simp only [Value.ownBlock, Option.some.injEq] at hk
          subst hk
          rcases hown2 with h | h
          · exact .inl h
          · right; simp at h; omega
    · have hemp : s.toList.isEmpty = true := by rw [Lib.toList_data]; have : s.data.toList = [] := Classical.byContradiction fun h => hp (hge.2 h); rw [this]; rfl
      have hemp2 : (s.toList == []) = true := by rw [Lib.toList_data]; have : s.data.toList = [] := Classical.byContradiction fun h => hp (hge.2 h); rw [this]; rfl
      have hat : (Tree.node s ps).atoms = Tree.atomsL ps := by simp [Tree.atoms, hp]
      rw [hat]
      have HG := Lib.hid hgl
      have hpl : 0 < ps.length := List.length_pos_iff.2 hp
      have hl2 := Tree.length_le_szL ps
      clear hat hge hgl hrow HST hp
      simp only [Tree.sz] at hb hn
      go_enter Try.func66, Try.ntmps66
      go_wp2
      go_loopw [5, 1] (fun iv lu wr => ∃ (k : Nat) (lv : Value), k ≤ ps.length ∧ iv = .int .i64 k ∧ lv = lu ∧ Hid (SRow wr base lv ((Tree.atomsL (ps.take k)).foldl addS l)) ∧ (w.alloc (.cells #[.string s, .slice o ps.length c] 63)).grownBy wr (Value.slice vo l.length vc).ownBlock ∧ Hid (∀ b, lv.ownBlock = some b → (Value.slice vo l.length vc).ownBlock = some b ∨ w.heap.size < b)) (fun iv _ _ => ps.length - (intOf iv).toNat)
      case atStart => exact ⟨0, _, Nat.zero_le _, rfl, rfl, by simpa [Tree.atomsL] using (Lib.hid (HROW.out.alloc _)), World.grownBy.of_below (Below.refl _ _) _, fun k hk => .inl hk⟩
      case round =>
        obtain ⟨k, lv, hk, rfl, rfl, HR, hg, HO⟩ := hrel
        have hob : some w.heap.size ≠ (Value.slice vo l.length vc).ownBlock := fun e => by have := (HROW.out.lt _ e.symm).2; omega
        have c0 : wr.cell? ⟨w.heap.size, 0, none⟩ = some (.string s) := hg.cell (two_new _ _ _ _).1 hob
        have c1 : wr.cell? ⟨w.heap.size, 1, none⟩ = some (.slice o ps.length c) := hg.cell (two_new _ _ _ _).2 hob
        have hK : Keeps A w wr := (Keeps.alloc A w _).trans (Keeps.grown hg fun b hb e => by have := (HROW.out.lt _ e.symm).1; have := hA b hb; omega)
        have hsz : w.heap.size + 1 ≤ wr.heap.size := by have := hg.size; simpa using this
        clear hob
        by_cases hlt : k < ps.length
        · obtain ⟨p, hp⟩ : ∃ p, ps[k]? = some p := ⟨ps[k], by simp [hlt]⟩
          obtain ⟨b, off, o', n', c', rfl, -, hx, hy, hrp⟩ := (RepS.keep hK _ _ _ hs).partAt hp
          have h1 := Tree.atomsL_take ps k p hp
          have h3 : p.sz ≤ n := by have := Tree.sz_part ps k p hp; omega
          have h5 := Tree.szL_take ps k p hp
          have h6 : (List.foldl addS l (Tree.atomsL (ps.take k))).length ≤ l.length + Tree.sizeL (ps.take k) := by have := foldAdd_len (Tree.atomsL (ps.take k)) l; rw [Tree.atomsL_le] at this; exact this
          have HC := Lib.hid (ih p A _ lv _ base wr h3 hrp hA HR.out (by omega) (by omega) (Tree.good_part ps k p hp HG.out))
          rw [← List.foldl_append, ← h1] at HC
          clear h1 h3 h5 h6 hp hrp ih
          go_wp2_with fail
          refine HC.out.mono ?_
          rintro e w1 ⟨v', rfl, hrow1, hg1, ho1⟩
          have HR1 := Lib.hid hrow1
          have HO1 := Lib.hid ho1
          have hg2 := hg.via hg1 (fun k h => by rcases HO.out k h with h | h; exact .inl h; right; simp; omega)
          clear hrow1 ho1 HC
          go_wp2
          go_roundw
          case rel => exact ⟨k + 1, _, by omega, by go_num, rfl, HR1, hg2, fun k h => by
            rcases HO1.out k h with h | h
            · exact HO.out k h
            · right; omega⟩
          case measure => simp [intOf]; omega
        · have hkn : k = ps.length := by omega
          have HF : Hid (SRow wr base lv ((Tree.atomsL ps).foldl addS l)) := by
            show SRow _ _ _ _
            have := HR.out
            rwa [hkn, List.take_length] at this
          go_wp2
          go_ret
          exact ⟨_, rfl, HF.out, (World.grownBy_alloc _ _ _).via hg (fun k h => .inl h), fun k h => by
            rcases HO.out k h with h | h
            · exact .inl h
            · right; omega⟩

/-- Every block of forms stands as it stood. -/
def FormsKept (w w' : World) : Prop := ∀ (k : Nat) (c : Array Value) (fz : Nat × Nat), w.heap[k]? = some (.cells c 50 fz) → w'.heap[k]? = some (.cells c 50 fz)

theorem FormsKept.below {w w' : World} (h : Below w.heap.size w w') : FormsKept w w' := fun k _ _ hk => (h.block k (Array.getElem?_eq_some_iff.1 hk).1).trans hk

theorem FormsKept.trans {a b c : World} (h : FormsKept a b) (g : FormsKept b c) : FormsKept a c := fun k x fz hk => g k x fz (h k x fz hk)

theorem FormsKept.cell {w w' : World} (h : FormsKept w w') {b : Nat} {x y : Value} (hb : w.heap[b]? = some (.cells #[x, y] 50 (0, 0))) : w'.heap[b]? = some (.cells #[x, y] 50 (0, 0)) ∧ w'.cell? ⟨b, 0, none⟩ = some x ∧ w'.cell? ⟨b, 1, none⟩ = some y := by
  have h1 := h b _ _ hb
  exact ⟨h1, by simp only [World.cell?, h1]; rfl, by simp only [World.cell?, h1]; rfl⟩

theorem box_at {w w1 : World} {o : Obj} (h : Below (w.alloc o).heap.size (w.alloc o) w1) : w1.heap[w.heap.size]? = some o := (h.block _ (by simp)).trans (heap_alloc_new w o)

theorem box_cells {w : World} {b : Nat} {x y : Value} {ty : TypeId} (h : w.heap[b]? = some (.cells #[x, y] ty (0, 0))) : w.cell? ⟨b, 0, none⟩ = some x ∧ w.cell? ⟨b, 1, none⟩ = some y :=
  ⟨by simp only [World.cell?, h]; rfl, by simp only [World.cell?, h]; rfl⟩

/-- What a function that is told of atoms keeps: I says what it has been told so far. -/
def ToldR (I : List ByteArray → World → Prop) (B : Nat) (l : List ByteArray) (w : World) (e : Ending) (w' : World) : Prop :=
  e = .returned (.tuple #[]) ∧ I l w' ∧ Below B w w' ∧ FormsKept w w'

set_option maxRecDepth 100000 in
set_option maxHeartbeats 800000 in
theorem atoms_any (K : FuncId) (he : ∀ args w, (callFunc K args).run Try.prog w = .ok (.enter K args) w) (caps : Array Value) (I : List ByteArray → World → Prop) (B : Nat) (M : Nat)
    (hI : ∀ l w w', I l w → Below w.heap.size w w' → I l w') (hB : ∀ l w, I l w → B ≤ w.heap.size)
    (hK : ∀ l s w, I l w → l.length ≤ M → s.size ≤ 1000000000 → Calls Try.prog K (#[.string s] ++ caps) w (ToldR I B (l ++ [s]) w)) (n : Nat) :
    ∀ (t : Tree) (A : Nat → Prop) (v : Value) (l : List ByteArray) (w : World), t.sz ≤ n → Rep w A t v → (∀ b, A b → b < B) → I l w → l.length + t.size ≤ M → t.sz ≤ 1000000000 → (∀ s ∈ t.atoms, s.size ≤ 1000000000) →
    Calls Try.prog 63 #[v, .func (Fn.func K) #[] caps] w (ToldR I B (l ++ t.atoms) w) := by
  induction n with
  | zero => intro t A v l w h; cases t; simp [Tree.sz] at h
  | succ n ih =>
    intro t A v l w hn hr hA hi hm hb hsz
    obtain ⟨s, ps⟩ := t
    simp only [Rep] at hr
    obtain ⟨o, ln, c, rfl, hs, hcap⟩ := hr
    obtain rfl := hs.len
    have hB0 : B ≤ w.heap.size := hB _ _ hi
    have e : ∀ args w, (callFunc K args).run Try.prog w = .ok (.enter K args) w := he
    have bel0 : Below w.heap.size w (w.alloc (.cells #[.string s, .slice o ps.length c] 50)) := (Below.refl _ _).alloc (Nat.le_refl _) _
    by_cases hp : ps = []
    · subst hp
      have ht : l ++ (Tree.node s []).atoms = l ++ [s] := by simp [Tree.atoms]
      rw [ht]
      clear ht
      go_enter Try.func63, Try.ntmps63
      go_wp2_with fail
      refine (isAtom_any _ _ _ _ _).mono ?_
      rintro e w1 ⟨rfl, hb1⟩
      have hx := box_at hb1
      obtain ⟨c0, c1⟩ := box_cells hx
      have hw1 : Below w.heap.size w w1 := bel0.trans (hb1.mono (by simp))
      have HC := Lib.hid (hK l s w1 (hI _ _ _ hi hw1) (by simp [Tree.size] at hm; omega) (hsz s (by simp [Tree.atoms])))
      have HX := Lib.hid hx
      clear hK hx hb1 ih
      go_wp2_with (go_at_fn K; refine HC.out.mono ?_; rintro e w2 ⟨rfl, hi2, hb2, hf2⟩; obtain ⟨hx2, d0, d1⟩ := hf2.cell HX.out)
      refine wp_loop_rounds 1 ?_
      rw [rounds_succ]
      go_wp2
      go_end0
      exact ⟨rfl, hi2, (hw1.mono hB0).trans hb2, (FormsKept.below hw1).trans hf2⟩
    · have hlen : ((ps.length : Int) == 0) = false := by simpa using hp
      have ht : (Tree.node s ps).atoms = Tree.atomsL ps := by simp [Tree.atoms, hp]
      have hts : (Tree.node s ps).size = Tree.sizeL ps := by simp [Tree.size, hp]
      rw [ht]
      rw [hts] at hm
      have HSZ := Lib.hid (show ∀ (p : Tree) (k : Nat), ps[k]? = some p → ∀ s ∈ p.atoms, s.size ≤ 1000000000 from fun (p : Tree) k hp s hs => hsz s (by rw [ht]; exact Tree.mem_atomsL ps k p hp s hs))
      clear hsz
      have hl2 := Tree.length_le_szL ps
      simp only [Tree.sz] at hb hn
      clear ht hts hp
      go_enter Try.func63, Try.ntmps63
      go_wp2_with fail
      refine (isAtom_any _ _ _ _ _).mono ?_
      rintro e w1 ⟨rfl, hb1⟩
      have hx := box_at hb1
      obtain ⟨c0, c1⟩ := box_cells hx
      have hw1 : Below w.heap.size w w1 := bel0.trans (hb1.mono (by simp))
      have hi1 := hI _ _ _ hi hw1
      have HI1 := Lib.hid hi1
      clear hx hb1 hi1 hi
      go_wp2
      go_loopw [15] (fun iv wr => ∃ k : Nat, k ≤ ps.length ∧ iv = .int .i64 k ∧ Hid (I (l ++ Tree.atomsL (ps.take k)) wr) ∧ Below B w wr ∧ FormsKept w wr) (fun iv _ => ps.length - (intOf iv).toNat)
      case atStart => exact ⟨0, Nat.zero_le _, rfl, by simpa [Tree.atomsL] using HI1, hw1.mono hB0, FormsKept.below hw1⟩
      case round =>
        obtain ⟨k, hk, rfl, HI, hbr, hfr⟩ := hrel
        by_cases hlt : k < ps.length
        · obtain ⟨p, hp⟩ : ∃ p, ps[k]? = some p := ⟨ps[k], by simp [hlt]⟩
          obtain ⟨b, off, o', n', c', rfl, -, hx, hy, hrp⟩ := (RepS.keep (Keeps.below' hbr hA) _ _ _ hs).partAt hp
          have h1 := Tree.atomsL_take ps k p hp
          have h2 := Tree.sizeL_take ps k p hp
          have h2' := Tree.sizeL_take_le ps (k + 1)
          have h3 : p.sz ≤ n := by have := Tree.sz_part ps k p hp; omega
          have h5 := Tree.szL_take ps k p hp
          have h6 := Tree.atomsL_le (ps.take k)
          have hBr := hB _ _ HI.out
          have bel1 : ∀ o, Below wr.heap.size wr (wr.alloc o) := fun o => (Below.refl _ _).alloc (Nat.le_refl _) _
          have HC := Lib.hid (fun o => ih p A _ (l ++ Tree.atomsL (ps.take k)) (wr.alloc o) h3 (Rep.keep (Keeps.alloc _ _ _) _ _ hrp) hA (hI _ _ _ HI.out (bel1 o)) (by rw [List.length_append, h6]; omega) (by omega) (HSZ.out p k hp))
          rw [List.append_assoc, ← h1] at HC
          clear h1 h2 h2' h3 h5 h6 hp hrp ih
          go_wp2_with fail
          refine (HC.out _).mono ?_
          rintro e w2 ⟨rfl, hi2, hb2, hf2⟩
          have HI2 := Lib.hid hi2
          have hB2 := (hbr.trans ((bel1 (.cells #[.string p.atom, .slice o' n' c'] 50)).mono hBr)).trans hb2
          have hF2 := (hfr.trans (FormsKept.below (bel1 (.cells #[.string p.atom, .slice o' n' c'] 50)))).trans hf2
          clear hi2 HC hb2 hf2
          go_wp2
          go_roundw
          case rel => exact ⟨k + 1, by omega, by go_num, HI2, hB2, hF2⟩
          case measure => simp [intOf]; omega
        · have hkn : k = ps.length := by omega
          have HF : Hid (I (l ++ Tree.atomsL ps) wr) := by
            show I _ _
            have := HI.out
            rwa [hkn, List.take_length] at this
          go_wp2
          go_end0
          exact ⟨rfl, HF.out, hbr, hfr⟩

theorem lawStr : Go.Maps.Keyed Try.prog 9 := Go.Maps.string_keyed Try.underlying9
theorem zeroBool (w : World) : (zeroValue 4).run Try.prog w = .ok (.bool false) w := by kernel_rfl

theorem plainElem_bool_inv {P : Program} {e : TypeId} (he : P.underlying e = some .bool) {v : Value} {b : Bool} {ps : List MemPlace} (h : plainElem (H := Unit) P e v = some (.lit (.bool b), ps)) : v = .bool b := by
  unfold plainElem at h
  rw [he] at h
  cases v <;> simp at h
  rw [h.1]

/-- What is asked of a set of texts. -/
theorem wpList_lookup_bool (w : World) {ops : Array Oper} {rest : List Oper} {o : Oper} {a : Act} {Q : Exit → Act → World → Prop}
    (hg : o.guard = none) (m x : Operand) (hop : o.op = Op.lookup 58 m x false) (b n : Nat) (D : DataW Unit)
    (hm : a.eval m = .map (some b)) (hown : w.ownsMap Try.prog 9 (plainElem Try.prog 4) b n D) (s : ByteArray) (hx : a.eval x = .string s) (hs : s.size ≤ 1000000000) (r : Bool)
    (hat : D.atKey (.string s.data.toList) (.lit (.bool false)) = .lit (.bool r)) (hK : wpList Try.prog ops Q rest (a.put o.dst (.bool r)) w) :
    wpList Try.prog ops Q (o :: rest) a w := by
  refine wpList_plain hg fun K' hK' => ?_
  obtain ⟨v, ps, hrun, hv⟩ := hown.lookup lawStr Try.underlying58 (zeroBool w) (plainElem_bool Try.underlying4 false) (Go.WideMaps.keyOf_string_mk Try.underlying9 (show s.size ≤ maxLen by unfold maxLen; omega))
  rw [hat] at hv
  have hvb := plainElem_bool_inv Try.underlying4 hv
  subst hvb
  unfold Oper.wp
  simp [execOp, hop, hm, hx, hrun, Result.andThen]
  exact hK' _ _ hK

/-- What the function that gathers atoms has gathered. -/
def MetI (B bo bm M : Nat) (l : List ByteArray) (w : World) : Prop :=
  ∃ v n D, bo ≠ bm ∧ B ≤ bo ∧ B ≤ bm ∧ B ≤ M ∧ w.heap[bo]? = some (.cells #[v] 33 (0, 0)) ∧ w.heap[bm]? = some (.cells #[.map (some M)] 58 (0, 0)) ∧ SRow w B v (l.foldl addS []) ∧
    w.ownsMap (H := Unit) Try.prog 9 (plainElem Try.prog 4) M n D ∧ n ≤ l.length ∧ ∀ s : ByteArray, D.atKey (.string s.data.toList) (.lit (.bool false)) = .lit (.bool (hasS (l.foldl addS []) s))

theorem MetI.below {B bo bm M : Nat} {l : List ByteArray} {w w' : World} (h : MetI B bo bm M l w) (hb : Below w.heap.size w w') : MetI B bo bm M l w' := by
  obtain ⟨v, n, D, h1, h2, h3, h4, h5, h6, h7, h8, h9, h10⟩ := h
  exact ⟨v, n, D, h1, h2, h3, h4, (hb.block _ (Array.getElem?_eq_some_iff.1 h5).1).trans h5, (hb.block _ (Array.getElem?_eq_some_iff.1 h6).1).trans h6, h7.below hb, h8.kept (World.grownBy.of_below hb none) (by simp), h9, h10⟩

theorem MetI.size {B bo bm M : Nat} {l : List ByteArray} {w : World} (h : MetI B bo bm M l w) : B ≤ w.heap.size := by
  obtain ⟨v, n, D, h1, h2, h3, h4, h5, h6, h7, h8, h9, h10⟩ := h
  have := (Array.getElem?_eq_some_iff.1 h5).1
  omega

theorem one_cell {w : World} {b : Nat} {v : Value} {ty : TypeId} (h : w.heap[b]? = some (.cells #[v] ty (0, 0))) : w.cell? ⟨b, 0, none⟩ = some v ∧ w.frozen? ⟨b, 0, none⟩ = false :=
  ⟨by simp only [World.cell?, h]; rfl, by simp only [World.frozen?, h]; rfl⟩

set_option maxRecDepth 100000 in
set_option maxHeartbeats 800000 in
theorem formAtoms1_any (B bo bm M : Nat) (l : List ByteArray) (s : ByteArray) (w : World) (h : MetI B bo bm M l w) (hl : l.length ≤ 1000000) (hs : s.size ≤ 1000000000) :
    Calls Try.prog 64 (#[.string s] ++ #[.pointer (some ⟨bm, 0, none⟩), .pointer (some ⟨bo, 0, none⟩)]) w (ToldR (MetI B bo bm M) B (l ++ [s]) w) := by
  have hsz := h.size
  obtain ⟨v, n, D, h1, h2, h3, h4, h5, h6, h7, h8, h9, h10⟩ := h
  obtain ⟨cm, fm⟩ := one_cell h6
  obtain ⟨co, fo⟩ := one_cell h5
  have hat := h10 s
  have H5 := Lib.hid h5
  have H6 := Lib.hid h6
  have H7 := Lib.hid h7
  have H8 := Lib.hid h8
  have H10 := Lib.hid h10
  have hfold : (l ++ [s]).foldl addS [] = addS (l.foldl addS []) s := by simp
  have HF := Lib.hid hfold
  have hll := foldAdd_len l []
  have HL := Lib.hid hll
  clear h5 h6 h7 h8 h10 hfold hll
  by_cases hh : hasS (l.foldl addS []) s = true
  · rw [hh] at hat
    have HAT := Lib.hid hat
    have HH := Lib.hid hh
    clear hat hh
    go_enter Try.func64, Try.ntmps64
    go_wp2_with (at_lookup; refine wpList_lookup_bool _ rfl _ _ rfl M n D rfl H8.out s rfl hs true HAT.out ?_)
    go_end0
    refine ⟨rfl, ⟨v, n, D, h1, h2, h3, h4, H5.out, H6.out, ?_, H8.out, by simp; omega, ?_⟩, Below.refl _ _, FormsKept.below (Below.refl _ _)⟩
    · rw [HF.out, addS_has HH.out]; exact H7.out
    · rw [HF.out, addS_has HH.out]; exact H10.out
  · have hh' : hasS (l.foldl addS []) s = false := by simpa using hh
    rw [hh'] at hat
    have HAT := Lib.hid hat
    have HH := Lib.hid hh'
    clear hat hh hh'
    have hnl : n ≤ 1000000 := by omega
    go_enter Try.func64, Try.ntmps64
    have hMo : bo ≠ M ∧ bm ≠ M := by
      obtain ⟨es, clock, hb, _⟩ := H8.out
      constructor
      · rintro rfl; have := H5.out; rw [hb] at this; cases this
      · rintro rfl; have := H6.out; rw [hb] at this; cases this
    obtain ⟨hMo, hMm⟩ := hMo
    have hlo : bo < w.heap.size := (Array.getElem?_eq_some_iff.1 H5.out).1
    have hlm : bm < w.heap.size := (Array.getElem?_eq_some_iff.1 H6.out).1
    have hmx : n < maxLen := by unfold maxLen; omega
    have hkx : keyOf Try.prog 9 (.string s) = some (.string s.data.toList) := Go.WideMaps.keyOf_string_mk Try.underlying9 (show s.size ≤ maxLen by unfold maxLen; omega)
    have HKX := Lib.hid hkx
    have hvo : v.ownBlock ≠ some bo := fun e => by obtain ⟨cur, hc⟩ := H7.out.kind e; have := H5.out; rw [hc] at this; simp at this
    have hvm : v.ownBlock ≠ some bm := fun e => by obtain ⟨cur, hc⟩ := H7.out.kind e; have := H6.out; rw [hc] at this; simp at this
    have hvM : v.ownBlock ≠ some M := fun e => by obtain ⟨cur, hc⟩ := H7.out.kind e; obtain ⟨es, clock, hb, _⟩ := H8.out; rw [hc] at hb; cases hb
    have hll : (l.foldl addS []).length ≤ 1000000000 := by have := HL.out; simp at this; omega
    clear hkx
    go_wp2_with (first | (at_lookup; refine wpList_lookup_bool _ rfl _ _ rfl M n D rfl H8.out s rfl hs false HAT.out ?_) | (at_mapUpdate; refine wpList_mapUpdate_own _ rfl _ _ _ 58 rfl 9 4 lawStr Try.underlying58 (plainElem (H := Unit) Try.prog 4) M n D rfl H8.out hmx _ _ _ rfl rfl HKX.out _ [] (plainElem_bool Try.underlying4 true) ?_; intro w1 hm1 hg1; have hx5 := (hg1.block _ hlo (fun e => hMo (Option.some.inj e))).trans H5.out; obtain ⟨co1, fo1⟩ := one_cell hx5; have HX5 := Lib.hid hx5; clear hx5; have HM1 := Lib.hid hm1; clear hm1; have hz1 := hg1.size; have HR1 := Lib.hid (H7.out.grown hg1 (.inr hvM))) | (at_builtin; refine wpList_append_str rfl (.tmp 10) (.tmp 12) rfl B v rfl (l.foldl addS []) _ 1 rfl s rfl HR1.out hll (by omega) ?_; intro g2 cap2 w2 hrow2 hg2 ho2; have hy5 := (hg2.block bo (by simp; omega) (fun e => hvo e.symm)).trans ((Below.heap_alloc _ _ _ (by omega)).trans HX5.out); obtain ⟨co2, fo2⟩ := one_cell hy5; have HY5 := Lib.hid hy5; clear hy5))
    go_end0
    have hx6 := (hg2.block bm (by simp; omega) (fun e => hvm e.symm)).trans ((Below.heap_alloc _ _ _ (by omega)).trans ((hg1.block _ hlm (fun e => hMm (Option.some.inj e))).trans H6.out))
    have hm2 := (HM1.out.alloc (.cells #[.string s] 9)).kept hg2 (fun e => hvM e.symm)
    have hBB : Below B w w2 := (((Below.refl B w).grown hg1 hsz (fun k hk => by cases hk; exact h4)).alloc (by omega) _).grown hg2 (by simp; omega) (fun k hk => (H7.out.lt k hk).1)
    have hF : FormsKept w w2 := by
      intro k c fz hk
      have hkl := (Array.getElem?_eq_some_iff.1 hk).1
      rw [hg2.block k (by simp; omega) (fun e => by obtain ⟨cur, hc⟩ := H7.out.kind e.symm; rw [hc] at hk; simp at hk), Below.heap_alloc _ _ _ (by omega), hg1.block k hkl (fun e => by cases e; obtain ⟨es, clock, hb, _⟩ := H8.out; rw [hb] at hk; cases hk)]
      exact hk
    refine ⟨rfl, ⟨_, n + 1, _, h1, h2, h3, h4, heap_setCell_same w2 bo 0 #[v] 33 _ HY5.out, ?_, ?_, hm2.setCell (fun e => hMo (by simpa using e.symm)) _, by simp; omega, ?_⟩, hBB.setCell (by exact h2) _, ?_⟩
    · rw [Below.heap_setCell _ _ _ _ (by simpa using h1.symm)]; exact hx6
    · rw [HF.out, addS_new HH.out]
      exact hrow2.setCell (fun e => by
        simp only [Value.ownBlock, Option.some.injEq] at e
        subst e
        rcases ho2 with h | h
        · exact hvo h
        · omega) _
    · intro x
      rw [HF.out, addS_new HH.out]
      by_cases hxs : x = s
      · subst hxs
        rw [Go.Maps.atKey_put_same H8.out.isMap (by trivial), show hasS (l.foldl addS [] ++ [x]) x = true from hasS_iff.2 (by simp)]
      · have hne : (Lit.string x.data.toList) ≠ (Lit.string s.data.toList) := by
          intro e
          simp only [Lit.string.injEq] at e
          exact hxs (by cases x; cases s; congr 1; exact Array.toList_inj.1 e)
        rw [Go.Maps.atKey_put_other hne, H10.out x]
        congr 2
        rw [Bool.eq_iff_iff, hasS_iff, hasS_iff]
        simp [hxs]
    · intro k c fz hk
      rw [Below.heap_setCell _ _ _ _ (fun e => by simp at e; subst e; rw [H5.out] at hk; simp at hk)]
      exact hF k c fz hk

/-- What a function that hands back texts, or none, hands back: 'res' is what it has. -/
def TextsR (res : Option (List ByteArray)) (w : World) (e : Ending) (w' : World) : Prop :=
  ∃ v, e = .returned (.tuple #[v, .bool res.isSome]) ∧ SRow w' w.heap.size v (res.getD []) ∧ Below w.heap.size w w'

/-- The different atoms of a text. -/
def atomsOf (s : List UInt8) : Option (List ByteArray) := (parse s).map fun t => t.atoms.foldl addS []

set_option maxRecDepth 100000 in
set_option maxHeartbeats 800000 in
theorem sFormAtoms_any (s : ByteArray) (w : World) (hs : s.size ≤ 1000000000) : Calls Try.prog 28 #[.string s] w (TextsR (atomsOf s.data.toList) w) := by
  cases hp : parse s.data.toList with
  | none =>
    have HP := Lib.hid hp
    have HR : Hid (atomsOf s.data.toList = none) := by show _ = _; unfold atomsOf; rw [hp]; rfl
    clear hp
    go_enter Try.func28, Try.ntmps28
    go_wp2_with fail
    refine (l1Parse_any _ _ hs).mono ?_
    rintro e w1 ⟨a, o, l, c, ok, t, rfl, hb1, hr, hok, -⟩
    rw [HP.out] at hok
    have hok' : ok = false := hok
    subst hok'
    clear hok
    go_wp2
    go_ret2
    have hE := SRow.empty (w1.alloc (.cells #[.string a, .slice o l c] 63)) (base := w.heap.size) (by have := hb1.size; simp; omega)
    rw [World.size_alloc] at hE
    exact ⟨.slice (some ⟨w1.heap.size + 1, 0, none⟩) 0 0, by rw [HR.out]; rfl, by rw [HR.out]; exact hE, (hb1.alloc hb1.size _).alloc (by have := hb1.size; simp; omega) _⟩
  | some t' =>
    have hsz := parse_sz hp
    have HG := Lib.hid (parse_good hp)
    have HP := Lib.hid hp
    have HR : Hid (atomsOf s.data.toList = some (t'.atoms.foldl addS [])) := by show _ = _; unfold atomsOf; rw [hp]; rfl
    clear hp
    go_enter Try.func28, Try.ntmps28
    go_wp2_with fail
    refine (l1Parse_any _ _ hs).mono ?_
    rintro e w1 ⟨a, o, l, c, ok, t, rfl, hb1, hr, hok, ht⟩
    rw [HP.out] at hok
    have hok' : ok = true := hok
    subst hok'
    obtain rfl := ht _ HP.out
    clear hok ht
    have hr1 := Rep.bound _ _ hr
    go_wp2_with fail
    have hE := SRow.empty (w1.alloc (.cells #[.string a, .slice o l c] 63)) (base := w1.heap.size + 1) (by simp)
    rw [World.size_alloc] at hE
    have hW : w1.heap.size + 1 ≤ ((w1.alloc (.cells #[.string a, .slice o l c] 63)).alloc (.cells #[] 9)).heap.size := by simp
    have hC := l1Atoms_any _ t _ _ _ [] (w1.heap.size + 1) _ (Nat.le_refl _) (Rep.keep ((Keeps.alloc _ w1 (.cells #[.string a, .slice o l c] 63)).alloc' (.cells #[] 9)) _ _ hr1) (fun b hb => by have := hb.2; omega) hE hW (by simp; omega) HG.out
    refine hC.mono ?_
    rintro e w2 ⟨v', rfl, hrow, hg, ho⟩
    go_wp2
    go_ret2
    refine ⟨_, by rw [HR.out]; rfl, by rw [HR.out]; exact hrow.mono (by have := hb1.size; omega), ?_⟩
    exact ((hb1.alloc hb1.size _).alloc (by have := hb1.size; simp; omega) _).grown hg (by have := hb1.size; simp; omega) (fun k hk => by simp [Value.ownBlock] at hk; have := hb1.size; omega)

theorem metI_start (w1 : World) (x : Obj) : MetI w1.heap.size (w1.heap.size + 1) (w1.heap.size + 1 + 1 + 1) (w1.heap.size + 1 + 1) [] ((((w1.alloc x).alloc (.cells #[.slice none 0 0] 33)).alloc (.map #[] 0)).alloc (.cells #[.map (some (w1.heap.size + 1 + 1))] 58)) := by
  refine ⟨.slice none 0 0, 0, .map [], by omega, by omega, by omega, by omega, ?_, ?_, SRow.nil _ _, ?_, Nat.le_refl _, fun s => rfl⟩
  · have h := heap_alloc_new (w1.alloc x) (.cells #[.slice none 0 0] 33)
    rw [World.size_alloc] at h
    rw [Below.heap_alloc _ _ _ (by simp), Below.heap_alloc _ _ _ (by simp)]
    exact h
  · have h := heap_alloc_new (((w1.alloc x).alloc (.cells #[.slice none 0 0] 33)).alloc (.map #[] 0)) (.cells #[.map (some (w1.heap.size + 1 + 1))] 58)
    simp only [World.size_alloc] at h
    exact h
  · have h := World.ownsMap_made (H := Unit) ((w1.alloc x).alloc (.cells #[.slice none 0 0] 33)) Try.prog 9 (plainElem Try.prog 4)
    simp only [World.size_alloc] at h
    exact h.alloc _

set_option maxRecDepth 100000 in
set_option maxHeartbeats 800000 in
theorem formAtoms_any (s : ByteArray) (w : World) (hs : s.size ≤ 1000000000) : Calls Try.prog 27 #[.string s] w (TextsR (atomsOf s.data.toList) w) := by
  have hmm := @run_makeMap Try.prog
  cases hp : parse s.data.toList with
  | none =>
    have HP := Lib.hid hp
    have HR : Hid (atomsOf s.data.toList = none) := by show _ = _; unfold atomsOf; rw [hp]; rfl
    clear hp
    go_enter Try.func27, Try.ntmps27
    go_wp2_with fail
    refine (read_any _ _ hs).mono ?_
    rintro e w1 ⟨a, o, l, c, ok, t, rfl, hb1, hr, hok, -⟩
    rw [HP.out] at hok
    have hok' : ok = false := hok
    subst hok'
    clear hok
    go_wp2
    go_ret2
    exact ⟨_, by rw [HR.out]; rfl, by rw [HR.out]; exact SRow.nil _ _, hb1.alloc hb1.size _⟩
  | some t' =>
    have hsz := parse_sz hp
    have HG := Lib.hid (parse_good hp)
    have HP := Lib.hid hp
    have HA : Hid (∀ x ∈ t'.atoms, x.size ≤ 1000000000) := fun x hx => by
      have := Tree.atoms_size t' x hx
      have h1 := (parse_iff _ _).1 hp
      have h2 := h1.2.2.2
      rw [h1.1] at h2
      omega
    have HR : Hid (atomsOf s.data.toList = some (t'.atoms.foldl addS [])) := by show _ = _; unfold atomsOf; rw [hp]; rfl
    clear hp
    go_enter Try.func27, Try.ntmps27
    go_wp2_with fail
    refine (read_any _ _ hs).mono ?_
    rintro e w1 ⟨a, o, l, c, ok, t, rfl, hb1, hr, hok, ht⟩
    rw [HP.out] at hok
    have hok' : ok = true := hok
    subst hok'
    obtain rfl := ht _ HP.out
    clear hok ht
    have hr1 := Rep.bound _ _ hr
    go_wp2_with fail
    have hI := metI_start w1 (.cells #[.string a, .slice o l c] 50)
    have hbel := (((((Below.refl w1.heap.size w1).alloc (Nat.le_refl _) (.cells #[.string a, .slice o l c] 50)).alloc (by simp) (.cells #[.slice none 0 0] 33)).alloc (by simp; omega) (.map #[] 0)).alloc (by simp; omega) (.cells #[.map (some (w1.heap.size + 1 + 1))] 58))
    have hat := Tree.size_le_sz t
    have hC := atoms_any 64 (fun _ _ => by kernel_rfl) #[.pointer (some ⟨w1.heap.size + 1 + 1 + 1, 0, none⟩), .pointer (some ⟨w1.heap.size + 1, 0, none⟩)] (MetI w1.heap.size (w1.heap.size + 1) (w1.heap.size + 1 + 1 + 1) (w1.heap.size + 1 + 1)) w1.heap.size 1000000 (fun _ _ _ h hb => h.below hb) (fun _ _ h => h.size) (fun l s w h hl hs => formAtoms1_any _ _ _ _ l s w h hl hs) _ t _ _ [] _ (Nat.le_refl _)
      (Rep.keep (Keeps.below hbel) _ _ hr1) (fun b hb => hb.2) hI (by simp; omega) (by omega) HA.out
    refine hC.mono ?_
    rintro e w2 ⟨rfl, hi2, hb2, hf2⟩
    rw [List.nil_append] at hi2
    obtain ⟨v, n, D, h1, h2, h3, h4, h5, h6, h7, h8, h9, h10⟩ := hi2
    obtain ⟨co, fo⟩ := one_cell h5
    have H7 := Lib.hid h7
    clear h5 h6 h7 h8 h10 hC hI
    go_wp2
    go_ret2
    exact ⟨_, by rw [HR.out]; rfl, by rw [HR.out]; exact H7.out.mono hb1.size, hb1.trans ((hbel.trans hb2).mono hb1.size)⟩
theorem atomsOf_len (s : List UInt8) : ((atomsOf s).getD []).length ≤ 1000000 := by
  unfold atomsOf
  cases hp : parse s with
  | none => simp
  | some t =>
    have h1 := parse_sz hp
    have h2 := Tree.atoms_le t
    have h3 := Tree.size_le_sz t
    have h4 := foldAdd_len t.atoms []
    simp only [Option.map_some, Option.getD_some]
    simp at h4
    omega
end Go.Proofs.Ytginaebioijcpaa
