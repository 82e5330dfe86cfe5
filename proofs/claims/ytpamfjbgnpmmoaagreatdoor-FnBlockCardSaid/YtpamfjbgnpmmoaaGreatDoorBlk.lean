/- Drawing blocks: the state of the walk. -/
import Derived.Test.YtpamfjbgnpmmoaaGreatDoorDrawS
import Derived.Test.YtpamfjbgnpmmoaaGreatDoorRowAt
namespace Go.Proofs.YtpamfjbgnpmmoaaGreatDoor
open Go.RowKit

theorem cells3 {w : World} {b : Nat} {x y z : Value} {ty : TypeId} (h : w.heap[b]? = some (.cells #[x, y, z] ty (0, 0))) : w.cell? ⟨b, 0, none⟩ = some x ∧ w.cell? ⟨b, 1, none⟩ = some y ∧ w.cell? ⟨b, 2, none⟩ = some z := by
  refine ⟨?_, ?_, ?_⟩ <;> (simp only [World.cell?, h]; rfl)
theorem sRow_at {W V : World} {base : Nat} {v : Value} {l : List ByteArray} (h : SRow W base v l) (hk : ∀ k, v.ownBlock = some k → V.heap[k]? = W.heap[k]?) : SRow V base v l := h.keep hk
theorem strsOneAt {w : World} {b : Nat} {x : ByteArray} {ty : TypeId} (h : w.heap[b]? = some (.cells #[.string x] ty (0, 0))) : Strs w (some ⟨b, 0, none⟩) 1 [x] := by
  refine ⟨rfl, .inr ⟨b, 0, rfl, fun i s hi => ?_⟩⟩
  match i, hi with
  | 0, hi => cases hi; simp only [World.cell?, h]; rfl
  | (n + 1), hi => simp at hi

theorem St.row {w0 W V : World} {rb p K : Nat} {r : Option Nat} (h : St w0 rb p K W) (hg : W.grownBy V r) (hr : ∀ k, r = some k → w0.heap.size ≤ k ∧ rb < k) : St w0 rb p K V := by
  obtain ⟨q, ⟨a, len, cap, k1, k2, k3⟩, h2, h3⟩ := h
  have hl := (Array.getElem?_eq_some_iff.1 k1).1
  have kp : ∀ k, k < W.heap.size → (k < w0.heap.size ∨ k ≤ rb) → V.heap[k]? = W.heap[k]? := fun k hk hc => hg.block k hk (fun e => by have := hr k e.symm; omega)
  refine ⟨q, ⟨a, len, cap, (kp rb hl (.inr (Nat.le_refl _))).trans k1, k2, ?_⟩, h2, ⟨hg.os.trans h3.os, hg.tape.trans h3.tape, hg.output.trans h3.output, Nat.le_trans h3.size hg.size, fun k hk hne => (kp k (Nat.lt_of_lt_of_le hk h3.size) (.inl hk)).trans (h3.block k hk hne)⟩⟩
  rcases k3 with h | ⟨c, off, ha, hc, hz⟩
  · exact .inl h
  · refine .inr ⟨c, off, ha, hc, fun j hj => ?_⟩
    obtain ⟨z, z1, z2⟩ := hz j hj
    exact ⟨z, z1, (World.cell?_of_block (w := W) (a := ⟨c, off + j, none⟩) (kp c (lt_of_cell z2) (.inr (Nat.le_of_lt hc)))).trans z2⟩

/-- The world within a drawing of a block: A is the block of the result, B the block's own. -/
structure BS (w0 : World) (rb p K A B : Nat) (lab : ByteArray) (V : World) (vr vc : Value) (lr lc : List ByteArray) : Prop where
  st : St w0 rb p K V
  low : w0.heap.size ≤ A ∧ rb < w0.heap.size ∧ A < B ∧ B < V.heap.size
  res : V.heap[A]? = some (.cells #[.string ⟨#[]⟩, .slice none 0 0, .slice none 0 0] 25 (0, 0))
  box : V.heap[B]? = some (.cells #[.string lab, vr, vc] 25 (0, 0))
  rr : SRow V (A + 1) vr lr
  rc : SRow V (A + 1) vc lc
  nr : vr.ownBlock ≠ some B
  nc : vc.ownBlock ≠ some B
  dif : ∀ k, vr.ownBlock = some k → vc.ownBlock ≠ some k
  sr : ∀ s ∈ lr, s.size ≤ 300
  sc : ∀ s ∈ lc, s.size ≤ 300

/-- A call that turns the reader alone. -/
theorem BS.call {w0 V V' : World} {rb p K K' A B : Nat} {lab : ByteArray} {vr vc : Value} {lr lc : List ByteArray} (h : BS w0 rb p K A B lab V vr vc lr lc) (hg : V.grownBy V' (some rb)) (hs : St w0 rb p K' V') : BS w0 rb p K' A B lab V' vr vc lr lc := by
  obtain ⟨l1, l2, l3, l4⟩ := h.low
  have kp : ∀ k, k < V.heap.size → k ≠ rb → V'.heap[k]? = V.heap[k]? := fun k hk hne => hg.block k hk (by simpa using hne)
  exact ⟨hs, ⟨l1, l2, l3, Nat.lt_of_lt_of_le l4 hg.size⟩, (kp A (by omega) (by omega)).trans h.res, (kp B l4 (by omega)).trans h.box, sRow_at h.rr (fun k hk => kp k (h.rr.lt k hk).2 (by have := (h.rr.lt k hk).1; omega)), sRow_at h.rc (fun k hk => kp k (h.rc.lt k hk).2 (by have := (h.rc.lt k hk).1; omega)), h.nr, h.nc, h.dif, h.sr, h.sc⟩
theorem BS.below {w0 V V' : World} {rb p K A B : Nat} {lab : ByteArray} {vr vc : Value} {lr lc : List ByteArray} (h : BS w0 rb p K A B lab V vr vc lr lc) (hb : Below V.heap.size V V') : BS w0 rb p K A B lab V' vr vc lr lc := h.call (grownBy_below hb) (h.st.below hb)
theorem BS.alloc {w0 V : World} {rb p K A B : Nat} {lab : ByteArray} {vr vc : Value} {lr lc : List ByteArray} (h : BS w0 rb p K A B lab V vr vc lr lc) (o : Obj) : BS w0 rb p K A B lab (V.alloc o) vr vc lr lc := h.below ((Below.refl _ _).alloc (Nat.le_refl _) o)
theorem BS.drew {w0 V : World} {rb p K A B : Nat} {lab : ByteArray} {vr vc : Value} {lr lc : List ByteArray} (h : BS w0 rb p K A B lab V vr vc lr lc) : BS w0 rb p K A B lab V.drew vr vc lr lc := h.below (Below.refl _ _).drew
theorem BS.cells {w0 V : World} {rb p K A B : Nat} {lab : ByteArray} {vr vc : Value} {lr lc : List ByteArray} (h : BS w0 rb p K A B lab V vr vc lr lc) : V.cell? ⟨B, 0, none⟩ = some (.string lab) ∧ V.cell? ⟨B, 1, none⟩ = some vr ∧ V.cell? ⟨B, 2, none⟩ = some vc := cells3 h.box

/-- What a call of the reader hands back, in such a world. -/
theorem BS.of {w0 V : World} {rb p K A B b n cap : Nat} {lab : ByteArray} {vr vc : Value} {lr lc : List ByteArray} {P : ByteArray → Prop} (h : BS w0 rb p K A B lab V vr vc lr lc) (hp : p + K ≤ 1000000000) (h1 : 1 ≤ n) (h2 : n ≤ 1000000) (hb : b ≠ rb) (hr : TextRow P V b n) :
    Calls Tryz.prog 11 #[.pointer (some ⟨rb, 0, none⟩), .slice (some ⟨b, 0, none⟩) n cap] V fun e w' => ∃ s, e = .returned (.string s) ∧ P s ∧ Hid (BS w0 rb p (K + 1) A B lab w' vr vc lr lc) := by
  obtain ⟨q, k1, k2, k3⟩ := h.st
  refine (of_any P V rb q b n cap k1 (by omega) h1 h2 hb hr).mono ?_
  rintro e w' ⟨s, rfl, hs, hrd, hg⟩
  exact ⟨s, rfl, hs, h.call hg (St.step hrd (by omega) k3 hg)⟩
theorem BS.pick {w0 V : World} {rb p K A B : Nat} {n : Int} {lab : ByteArray} {vr vc : Value} {lr lc : List ByteArray} (h : BS w0 rb p K A B lab V vr vc lr lc) (hp : p + K ≤ 1000000000) (h1 : 1 ≤ n) (h2 : n ≤ 1000000) :
    Calls Tryz.prog 12 #[.pointer (some ⟨rb, 0, none⟩), .int .i64 n] V fun e w' => ∃ z : Int, e = .returned (.int .i64 z) ∧ 0 ≤ z ∧ z < n ∧ Hid (BS w0 rb p (K + 1) A B lab w' vr vc lr lc) := by
  obtain ⟨q, k1, k2, k3⟩ := h.st
  refine (pick_any V rb q n k1 (by omega) h1 h2).mono ?_
  rintro e w' ⟨z, rfl, hz0, hz1, hrd, hg⟩
  exact ⟨z, rfl, hz0, hz1, h.call hg (St.step hrd (by omega) k3 hg)⟩

/-- One text more among the registers' types, or in the code. -/
theorem BS.pushR {w0 V V' : World} {rb p K A B N c : Nat} {o : Option Addr} {lab x : ByteArray} {vr vc : Value} {lr lc : List ByteArray} (h : BS w0 rb p K A B lab V vr vc lr lc) (hg : V.grownBy V' vr.ownBlock) (hv : SRow V' (A + 1) (.slice o N c) (lr ++ [x])) (ho : (Value.slice o N c).ownBlock = vr.ownBlock ∨ (Value.slice o N c).ownBlock = some V.heap.size) (hx : x.size ≤ 300) :
    BS w0 rb p K A B lab (V'.setCell ⟨B, 1, none⟩ (.slice o N c)) (.slice o N c) vc (lr ++ [x]) lc := by
  obtain ⟨l1, l2, l3, l4⟩ := h.low
  have hown := h.rr.lt
  have kp : ∀ k, k < V.heap.size → vr.ownBlock ≠ some k → k ≠ B → (V'.setCell ⟨B, 1, none⟩ (.slice o N c)).heap[k]? = V.heap[k]? := fun k hk h1 h2 => (Below.heap_setCell _ _ _ _ h2).trans (hg.block k hk (fun e => h1 e.symm))
  have ks : ∀ k, k ≠ B → (V'.setCell ⟨B, 1, none⟩ (.slice o N c)).heap[k]? = V'.heap[k]? := fun k h2 => Below.heap_setCell _ _ _ _ h2
  have hB := (hg.block B l4 (fun e => h.nr e.symm)).trans h.box
  have hn : (Value.slice o N c).ownBlock ≠ some B := by
    rcases ho with h1 | h1
    · rw [h1]; exact h.nr
    · rw [h1]; simp; omega
  refine ⟨(h.st.row hg (fun k hk => by have := (hown k hk).1; omega)).set l2 (by omega) 1 _, ⟨l1, l2, l3, by have := hg.size; simp [World.setCell]; omega⟩, ?_, ?_, sRow_at hv (fun k hk => ks k (fun e => hn (by rw [hk, e]))), ?_, hn, h.nc, ?_, ?_, h.sc⟩
  · exact (kp A (by omega) (fun e => by have := (hown A e).1; omega) (by omega)).trans h.res
  · simp [World.setCell, Array.getElem?_modify, hB]
  · exact sRow_at h.rc (fun k hk => kp k (h.rc.lt k hk).2 (fun e => h.dif k e hk) (fun e => h.nc (by rw [hk, e])))
  · intro k hk hk2
    rcases ho with h1 | h1
    · exact h.dif k (by rw [← h1]; exact hk) hk2
    · rw [h1] at hk; have := (h.rc.lt k hk2).2; simp at hk; omega
  · intro s hs
    rcases List.mem_append.1 hs with h1 | h1
    · exact h.sr s h1
    · rw [List.mem_singleton] at h1; rw [h1]; exact hx
theorem BS.pushC {w0 V V' : World} {rb p K A B N c : Nat} {o : Option Addr} {lab x : ByteArray} {vr vc : Value} {lr lc : List ByteArray} (h : BS w0 rb p K A B lab V vr vc lr lc) (hg : V.grownBy V' vc.ownBlock) (hv : SRow V' (A + 1) (.slice o N c) (lc ++ [x])) (ho : (Value.slice o N c).ownBlock = vc.ownBlock ∨ (Value.slice o N c).ownBlock = some V.heap.size) (hx : x.size ≤ 300) :
    BS w0 rb p K A B lab (V'.setCell ⟨B, 2, none⟩ (.slice o N c)) vr (.slice o N c) lr (lc ++ [x]) := by
  obtain ⟨l1, l2, l3, l4⟩ := h.low
  have hown := h.rc.lt
  have kp : ∀ k, k < V.heap.size → vc.ownBlock ≠ some k → k ≠ B → (V'.setCell ⟨B, 2, none⟩ (.slice o N c)).heap[k]? = V.heap[k]? := fun k hk h1 h2 => (Below.heap_setCell _ _ _ _ h2).trans (hg.block k hk (fun e => h1 e.symm))
  have ks : ∀ k, k ≠ B → (V'.setCell ⟨B, 2, none⟩ (.slice o N c)).heap[k]? = V'.heap[k]? := fun k h2 => Below.heap_setCell _ _ _ _ h2
  have hB := (hg.block B l4 (fun e => h.nc e.symm)).trans h.box
  have hn : (Value.slice o N c).ownBlock ≠ some B := by
    rcases ho with h1 | h1
    · rw [h1]; exact h.nc
    · rw [h1]; simp; omega
  refine ⟨(h.st.row hg (fun k hk => by have := (hown k hk).1; omega)).set l2 (by omega) 2 _, ⟨l1, l2, l3, by have := hg.size; simp [World.setCell]; omega⟩, ?_, ?_, ?_, sRow_at hv (fun k hk => ks k (fun e => hn (by rw [hk, e]))), h.nr, hn, ?_, h.sr, ?_⟩
  · exact (kp A (by omega) (fun e => by have := (hown A e).1; omega) (by omega)).trans h.res
  · simp [World.setCell, Array.getElem?_modify, hB]
  · exact sRow_at h.rr (fun k hk => kp k (h.rr.lt k hk).2 (fun e => h.dif k hk e) (fun e => h.nr (by rw [hk, e])))
  · intro k hk hk2
    rcases ho with h1 | h1
    · exact h.dif k hk (by rw [← h1]; exact hk2)
    · rw [h1] at hk2; have := (h.rr.lt k hk).2; simp at hk2; omega
  · intro s hs
    rcases List.mem_append.1 hs with h1 | h1
    · exact h.sc s h1
    · rw [List.mem_singleton] at h1; rw [h1]; exact hx
end Go.Proofs.YtpamfjbgnpmmoaaGreatDoor
