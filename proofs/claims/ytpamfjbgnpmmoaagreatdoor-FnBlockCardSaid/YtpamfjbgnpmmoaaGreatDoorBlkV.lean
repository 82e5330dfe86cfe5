/- Drawing blocks: the law's draw. -/
import Derived.Test.YtpamfjbgnpmmoaaGreatDoorBlkW
namespace Go.Proofs.YtpamfjbgnpmmoaaGreatDoor
open Go.RowKit

/-- The world at the end of a drawing: R is the block of the result, B the block's own. -/
structure DE (w : World) (R B base : Nat) (lab : ByteArray) (V : World) (vr vc : Value) (lr lc : List ByteArray) : Prop where
  bel : Below w.heap.size w V
  low : w.heap.size ≤ R ∧ R < base ∧ base ≤ B ∧ B < V.heap.size
  res : V.heap[R]? = some (.cells #[.string ⟨#[]⟩, .slice none 0 0, .slice none 0 0] 25 (0, 0))
  box : V.heap[B]? = some (.cells #[.string lab, vr, vc] 25 (0, 0))
  rr : SRow V base vr lr
  rc : SRow V base vc lc
  nr : vr.ownBlock ≠ some B
  nc : vc.ownBlock ≠ some B
  dif : ∀ k, vr.ownBlock = some k → vc.ownBlock ≠ some k
  sr : ∀ s ∈ lr, s.size ≤ 300
  sc : ∀ s ∈ lc, s.size ≤ 300

theorem DE.below {w V V' : World} {R B base : Nat} {lab : ByteArray} {vr vc : Value} {lr lc : List ByteArray} (h : DE w R B base lab V vr vc lr lc) (hb : Below V.heap.size V V') : DE w R B base lab V' vr vc lr lc := by
  obtain ⟨l1, l2, l3, l4⟩ := h.low
  exact ⟨h.bel.trans (hb.mono h.bel.size), ⟨l1, l2, l3, Nat.lt_of_lt_of_le l4 hb.size⟩, (hb.block R (by omega)).trans h.res, (hb.block B l4).trans h.box, h.rr.below hb, h.rc.below hb, h.nr, h.nc, h.dif, h.sr, h.sc⟩
theorem DE.alloc {w V : World} {R B base : Nat} {lab : ByteArray} {vr vc : Value} {lr lc : List ByteArray} (h : DE w R B base lab V vr vc lr lc) (o : Obj) : DE w R B base lab (V.alloc o) vr vc lr lc := h.below ((Below.refl _ _).alloc (Nat.le_refl _) o)
theorem DE.pushR {w V V' : World} {R B base N c : Nat} {o : Option Addr} {lab x : ByteArray} {vr vc : Value} {lr lc : List ByteArray} (h : DE w R B base lab V vr vc lr lc) (hg : V.grownBy V' vr.ownBlock) (hv : SRow V' base (.slice o N c) (lr ++ [x])) (ho : (Value.slice o N c).ownBlock = vr.ownBlock ∨ (Value.slice o N c).ownBlock = some V.heap.size) (hx : x.size ≤ 300) :
    DE w R B base lab (V'.setCell ⟨B, 1, none⟩ (.slice o N c)) (.slice o N c) vc (lr ++ [x]) lc := by
  obtain ⟨l1, l2, l2b, l3⟩ := h.low
  have hown := h.rr.lt
  have kp : ∀ k, k < V.heap.size → vr.ownBlock ≠ some k → k ≠ B → (V'.setCell ⟨B, 1, none⟩ (.slice o N c)).heap[k]? = V.heap[k]? := fun k hk h1 h2 => (Below.heap_setCell _ _ _ _ h2).trans (hg.block k hk (fun e => h1 e.symm))
  have ks : ∀ k, k ≠ B → (V'.setCell ⟨B, 1, none⟩ (.slice o N c)).heap[k]? = V'.heap[k]? := fun k h2 => Below.heap_setCell _ _ _ _ h2
  have hB := (hg.block B l3 (fun e => h.nr e.symm)).trans h.box
  have hn : (Value.slice o N c).ownBlock ≠ some B := by
    rcases ho with h1 | h1
    · rw [h1]; exact h.nr
    · rw [h1]; simp; omega
  have hR := (hg.block R (by omega) (fun e => by have := (hown R e.symm).1; omega)).trans h.res
  refine ⟨(h.bel.grown hg (by have := h.bel.size; omega) (fun k hk => by have := (hown k hk).1; omega)).setCell (by show w.heap.size ≤ B; omega) _, ⟨l1, l2, l2b, by have := hg.size; simp [World.setCell]; omega⟩, (ks R (by omega)).trans hR, ?_, sRow_at hv (fun k hk => ks k (fun e => hn (by rw [hk, e]))), sRow_at h.rc (fun k hk => kp k (h.rc.lt k hk).2 (fun e => h.dif k e hk) (fun e => h.nc (by rw [hk, e]))), hn, h.nc, ?_, ?_, h.sc⟩
  · simp [World.setCell, Array.getElem?_modify, hB]
  · intro k hk hk2
    rcases ho with h1 | h1
    · exact h.dif k (by rw [← h1]; exact hk) hk2
    · rw [h1] at hk; have := (h.rc.lt k hk2).2; simp at hk; omega
  · intro s hs
    rcases List.mem_append.1 hs with h1 | h1
    · exact h.sr s h1
    · rw [List.mem_singleton] at h1; rw [h1]; exact hx
theorem DE.pushC {w V V' : World} {R B base N c : Nat} {o : Option Addr} {lab x : ByteArray} {vr vc : Value} {lr lc : List ByteArray} (h : DE w R B base lab V vr vc lr lc) (hg : V.grownBy V' vc.ownBlock) (hv : SRow V' base (.slice o N c) (lc ++ [x])) (ho : (Value.slice o N c).ownBlock = vc.ownBlock ∨ (Value.slice o N c).ownBlock = some V.heap.size) (hx : x.size ≤ 300) :
    DE w R B base lab (V'.setCell ⟨B, 2, none⟩ (.slice o N c)) vr (.slice o N c) lr (lc ++ [x]) := by
  obtain ⟨l1, l2, l2b, l3⟩ := h.low
  have hown := h.rc.lt
  have kp : ∀ k, k < V.heap.size → vc.ownBlock ≠ some k → k ≠ B → (V'.setCell ⟨B, 2, none⟩ (.slice o N c)).heap[k]? = V.heap[k]? := fun k hk h1 h2 => (Below.heap_setCell _ _ _ _ h2).trans (hg.block k hk (fun e => h1 e.symm))
  have ks : ∀ k, k ≠ B → (V'.setCell ⟨B, 2, none⟩ (.slice o N c)).heap[k]? = V'.heap[k]? := fun k h2 => Below.heap_setCell _ _ _ _ h2
  have hB := (hg.block B l3 (fun e => h.nc e.symm)).trans h.box
  have hn : (Value.slice o N c).ownBlock ≠ some B := by
    rcases ho with h1 | h1
    · rw [h1]; exact h.nc
    · rw [h1]; simp; omega
  have hR := (hg.block R (by omega) (fun e => by have := (hown R e.symm).1; omega)).trans h.res
  refine ⟨(h.bel.grown hg (by have := h.bel.size; omega) (fun k hk => by have := (hown k hk).1; omega)).setCell (by show w.heap.size ≤ B; omega) _, ⟨l1, l2, l2b, by have := hg.size; simp [World.setCell]; omega⟩, (ks R (by omega)).trans hR, ?_, sRow_at h.rr (fun k hk => kp k (h.rr.lt k hk).2 (fun e => h.dif k hk e) (fun e => h.nr (by rw [hk, e]))), sRow_at hv (fun k hk => ks k (fun e => hn (by rw [hk, e]))), h.nr, hn, ?_, h.sr, ?_⟩
  · simp [World.setCell, Array.getElem?_modify, hB]
  · intro k hk hk2
    rcases ho with h1 | h1
    · exact h.dif k hk (by rw [← h1]; exact hk2)
    · rw [h1] at hk2; have := (h.rr.lt k hk).2; simp at hk2; omega
  · intro s hs
    rcases List.mem_append.1 hs with h1 | h1
    · exact h.sc s h1
    · rw [List.mem_singleton] at h1; rw [h1]; exact hx

theorem DE.resC {w V V' : World} {R B base : Nat} {lab : ByteArray} {vr vc : Value} {lr lc : List ByteArray} (h : DE w R B base lab V vr vc lr lc) (hg : V.grownBy V' vc.ownBlock) : V'.heap[R]? = some (.cells #[.string ⟨#[]⟩, .slice none 0 0, .slice none 0 0] 25 (0, 0)) := by
  obtain ⟨l1, l2, l3, l4⟩ := h.low
  exact (hg.block R (by omega) (fun e => by have := (h.rc.lt R e.symm).1; omega)).trans h.res
theorem DE.resR {w V V' : World} {R B base : Nat} {lab : ByteArray} {vr vc : Value} {lr lc : List ByteArray} (h : DE w R B base lab V vr vc lr lc) (hg : V.grownBy V' vr.ownBlock) : V'.heap[R]? = some (.cells #[.string ⟨#[]⟩, .slice none 0 0, .slice none 0 0] 25 (0, 0)) := by
  obtain ⟨l1, l2, l3, l4⟩ := h.low
  exact (hg.block R (by omega) (fun e => by have := (h.rr.lt R e.symm).1; omega)).trans h.res

theorem DE.call {w V V' : World} {R B base rb : Nat} {lab : ByteArray} {vr vc : Value} {lr lc : List ByteArray} (h : DE w R B base lab V vr vc lr lc) (hg : V.grownBy V' (some rb)) (hr : w.heap.size ≤ rb ∧ R < rb ∧ rb < base) : DE w R B base lab V' vr vc lr lc := by
  obtain ⟨l1, l2, l3, l4⟩ := h.low
  have kp : ∀ k, k < V.heap.size → k ≠ rb → V'.heap[k]? = V.heap[k]? := fun k hk hne => hg.block k hk (by simpa using hne)
  exact ⟨h.bel.trans_grown hg hr.1 h.bel.size, ⟨l1, l2, l3, Nat.lt_of_lt_of_le l4 hg.size⟩, (kp R (by omega) (by omega)).trans h.res, (kp B l4 (by omega)).trans h.box, sRow_at h.rr (fun k hk => kp k (h.rr.lt k hk).2 (by have := (h.rr.lt k hk).1; omega)), sRow_at h.rc (fun k hk => kp k (h.rc.lt k hk).2 (by have := (h.rc.lt k hk).1; omega)), h.nr, h.nc, h.dif, h.sr, h.sc⟩

/-- The code is left out. -/
theorem DE.dropC {w V : World} {R B base : Nat} {lab : ByteArray} {vr vc : Value} {lr lc : List ByteArray} (h : DE w R B base lab V vr vc lr lc) : DE w R B base lab ((V.alloc (.cells #[] 9)).setCell ⟨B, 2, none⟩ (.slice (some ⟨V.heap.size, 0, none⟩) 0 0)) vr (.slice (some ⟨V.heap.size, 0, none⟩) 0 0) lr [] := by
  have h' := h.alloc (.cells #[] 9)
  obtain ⟨l1, l2, l2b, l3⟩ := h.low
  have ks : ∀ k, k ≠ B → ((V.alloc (.cells #[] 9)).setCell ⟨B, 2, none⟩ (.slice (some ⟨V.heap.size, 0, none⟩) 0 0)).heap[k]? = (V.alloc (.cells #[] 9)).heap[k]? := fun k h2 => Below.heap_setCell _ _ _ _ h2
  refine ⟨h'.bel.setCell (by show w.heap.size ≤ B; omega) _, ⟨l1, l2, l2b, by simp [World.setCell]; omega⟩, (ks R (by omega)).trans h'.res, ?_, sRow_at h'.rr (fun k hk => ks k (fun e => h.nr (by rw [hk, e]))), ?_, h.nr, by simp [Value.ownBlock]; omega, ?_, h.sr, by simp⟩
  · simp [World.setCell, Array.getElem?_modify, h'.box]
  · exact sRow_at (SRow.empty V (base := base) (by omega)) (fun k hk => ks k (by simp [Value.ownBlock] at hk; omega))
  · intro k hk hk2
    simp [Value.ownBlock] at hk2
    have := (h.rr.lt k hk).2
    omega

theorem rowRead {w : World} {base n cap : Nat} {o : Option Addr} {l : List ByteArray} (h : SRow w base (.slice o n cap) l) : Strs w o n l := by
  obtain ⟨o', c', hv, hs⟩ := h.forms
  simp only [Value.slice.injEq] at hv
  obtain ⟨rfl, rfl, rfl⟩ := hv
  exact hs

/-- What the law's draw hands back. -/
def DrawnB (w : World) (e : Ending) (w' : World) : Prop :=
  ∃ L o n c o2 n2 c2 lr lc, e = .returned (.agg #[.string L, .slice o n c, .slice o2 n2 c2]) ∧ L.size ≤ 4 ∧ Strs w' o n lr ∧ Strs w' o2 n2 lc ∧ (∀ s ∈ lr, s.size ≤ 300) ∧ (∀ s ∈ lc, s.size ≤ 300) ∧ lr.length ≤ 10 ∧ lc.length ≤ 10 ∧ Below w.heap.size w w'

theorem DE.fin {w V : World} {R B base n c n2 c2 : Nat} {o o2 : Option Addr} {lab : ByteArray} {lr lc : List ByteArray} (h : DE w R B base lab V (.slice o n c) (.slice o2 n2 c2) lr lc) (hl : lab.size ≤ 4) (h1 : lr.length ≤ 10) (h2 : lc.length ≤ 10) (v0 v1 v2 : Value) :
    DrawnB w (.returned (.agg #[.string lab, .slice o n c, .slice o2 n2 c2])) (((V.setCell ⟨R, 0, none⟩ v0).setCell ⟨R, 1, none⟩ v1).setCell ⟨R, 2, none⟩ v2) := by
  obtain ⟨l1, l2, l2b, l3⟩ := h.low
  have kp : ∀ k, k ≠ R → (((V.setCell ⟨R, 0, none⟩ v0).setCell ⟨R, 1, none⟩ v1).setCell ⟨R, 2, none⟩ v2).heap[k]? = V.heap[k]? := fun k hk => (Below.heap_setCell _ _ _ _ hk).trans ((Below.heap_setCell _ _ _ _ hk).trans (Below.heap_setCell _ _ _ _ hk))
  exact ⟨lab, o, n, c, o2, n2, c2, lr, lc, rfl, hl, rowRead (sRow_at h.rr (fun k hk => kp k (by have := (h.rr.lt k hk).1; omega))), rowRead (sRow_at h.rc (fun k hk => kp k (by have := (h.rc.lt k hk).1; omega))), h.sr, h.sc, h1, h2, ((h.bel.setCell (p := ⟨R, 0, none⟩) l1 v0).setCell (p := ⟨R, 1, none⟩) l1 v1).setCell (p := ⟨R, 2, none⟩) l1 v2⟩

set_option maxRecDepth 100000 in
set_option maxHeartbeats 3200000 in
theorem drawBlockValid_any (w : World) (a : Option Addr) (len cap : Nat) (h : Code w a len cap) :
    Calls Tryz.prog 4 #[.slice a len cap] w (DrawnB w) := by
  have hc1 : Code (w.alloc (.cells #[.string ⟨#[]⟩, .slice none 0 0, .slice none 0 0] 25)) a len cap := by
    refine ⟨h.1, h.2.1, ?_⟩
    rcases h.2.2 with h0 | ⟨b, off, ha, hz⟩
    · exact .inl h0
    · refine .inr ⟨b, off, ha, fun i hi => ?_⟩
      obtain ⟨z, z1, z2⟩ := hz i hi
      exact ⟨z, z1, (((Below.refl w.heap.size w).alloc (Nat.le_refl _) _).cell (p := ⟨b, off + i, none⟩) (lt_of_cell z2)).trans z2⟩
  have H := Lib.hid (l6Open_any _ a len cap hc1)
  have HRS : Hid ((w.alloc (.cells #[.string ⟨#[]⟩, .slice none 0 0, .slice none 0 0] 25)).heap[w.heap.size]? = some (.cells #[.string ⟨#[]⟩, .slice none 0 0, .slice none 0 0] 25 (0, 0))) := heap_alloc_new _ _
  have HB1 : Hid (Below w.heap.size w (w.alloc (.cells #[.string ⟨#[]⟩, .slice none 0 0, .slice none 0 0] 25))) := (Below.refl _ _).alloc (Nat.le_refl _) _
  clear h hc1
  go_enter Tryz.func4, Tryz.ntmps4
  go_wp2_with fail
  refine H.out.mono ?_
  rintro e w2 ⟨rb, rfl, hrb, hrd, hB2⟩
  have hrb' : w.heap.size < rb := by simp at hrb; omega
  have hlt2 := hrd.lt
  have H2 := Lib.hid (St.start hrd)
  have HRS2 := Lib.hid ((hB2.block w.heap.size (by simp)).trans HRS.out)
  have HBW2 := Lib.hid (HB1.out.trans (hB2.mono (by simp)))
  clear hrb hrd hB2 H
  have hP := st_of (P := fun s => s.size ≤ 4) (b := w2.heap.size) (n := 6) (cap := 6) (H2.out.alloc (.cells #[.string ⟨#[109, 97, 105, 110]⟩, .string ⟨#[98, 48]⟩, .string ⟨#[98, 49]⟩, .string ⟨#[77, 97, 105, 110]⟩, .string ⟨#[]⟩, .string ⟨#[48, 98]⟩] 9)) (by omega) (by omega) (by omega) (by omega) (by
    refine textRow_new w2 _ _ ?_
    (repeat (first | exact trivial | (refine ⟨⟨_, rfl, ?_⟩, ?_⟩; · first | assumption | decide | (simp only [ByteArray.size]; decide)))))
  go_wp2_with fail
  refine hP.mono ?_
  rintro e w3 ⟨L, rfl, hL, H3⟩
  clear hP
  have hP := st_pick (n := 3) H3.out (by omega) (by omega) (by omega)
  go_wp2_with fail
  refine hP.mono ?_
  rintro e w4 ⟨z, rfl, hz0, hz1, H4⟩
  obtain ⟨nr, rfl⟩ := Int.eq_ofNat_of_zero_le hz0
  clear hP
  have hK := l92Block_any (n := nr) (lab := L) H4.out hlt2 (by omega) (by omega)
  go_wp2_with fail
  refine hK.mono ?_
  rintro e w4b ⟨o, n, c, o2, n2, c2, lr, lc, rfl, H4b, HRR, HRC, hdif, hsr, hsc, hlr, hlc, hbs⟩
  clear hK
  -- the block's own box
  have hw4 : w2.heap.size ≤ w4.heap.size := H4.out.grow.size
  have HD0 : Hid (DE w w.heap.size w4b.heap.size (w4.heap.size + 1) L (w4b.alloc (.cells #[.string L, .slice o n c, .slice o2 n2 c2] 25)) (.slice o n c) (.slice o2 n2 c2) lr lc) := by
    have hs4b : w2.heap.size ≤ w4b.heap.size := H4b.out.grow.size
    have hbw : Below w.heap.size w w4b := HBW2.out.trans_grown H4b.out.grow (by omega) HBW2.out.size
    have hbb : w4.heap.size + 1 ≤ w4b.heap.size := hbs
    refine ⟨hbw.alloc hbw.size _, ⟨Nat.le_refl _, by omega, hbb, by simp⟩, ?_, heap_alloc_new _ _, HRR.out.below ((Below.refl _ _).alloc (Nat.le_refl _) _), HRC.out.below ((Below.refl _ _).alloc (Nat.le_refl _) _), ?_, ?_, hdif, hsr, hsc⟩
    · exact (Below.heap_alloc _ _ _ (by omega)).trans ((H4b.out.grow.block w.heap.size (by omega) (by simp; omega)).trans HRS2.out)
    · intro e; have := (HRR.out.lt _ e).2; omega
    · intro e; have := (HRC.out.lt _ e).2; omega
  have H5 := Lib.hid (H4b.out.alloc (.cells #[.string L, .slice o n c, .slice o2 n2 c2] 25))
  have HST := H5.out.rebase
  have hP := st_pick (n := 10) HST (by omega) (by omega) (by omega)
  clear HST
  go_wp2_with fail
  refine hP.mono ?_
  rintro e w5 ⟨z, rfl, hz0, hz1, HP5⟩
  have HD : Hid (DE w w.heap.size w4b.heap.size (w4.heap.size + 1) L w5 (.slice o n c) (.slice o2 n2 c2) lr lc) := HD0.out.call HP5.out.grow (by omega)
  clear hP HP5 HD0 H5 HRR HRC H4b
  have hnl : n = lr.length := (rowRead HD.out.rr).1
  have hn2l : n2 = lc.length := (rowRead HD.out.rc).1
  have HNL := Lib.hid (And.intro hnl hn2l)
  have hn4 : n ≤ 3 := by omega
  have hn24 : n2 ≤ 6 := by omega
  clear hnl hn2l hdif hsr hsc hbs
  generalize w4b.heap.size = B4 at *
  generalize w4.heap.size + 1 = base at *
  by_cases h0 : z = 0
  · subst h0
    have HA := Lib.hid (HD.out.alloc (.cells #[.string ⟨#[40, 99, 111, 110, 115, 116, 32, 48, 32, 49, 41]⟩] 9))
    obtain ⟨d0, d1, d2⟩ := cells3 HD.out.box
    have hB5 := HD.out.low.2.2.2
    have hsz : base ≤ (w5.alloc (.cells #[.string ⟨#[40, 99, 111, 110, 115, 116, 32, 48, 32, 49, 41]⟩] 9)).heap.size := by have := HA.out.low; omega
    have HN1 : Hid (lc.length + 1 = n2 + 1) := by have := (rowRead HD.out.rc).1; show _ = _; omega
    have hl5 := HA.out.low
    go_wp2_with (at_builtin; refine wpList_append_at rfl (.tmp 19) (.tmp 20) rfl base (.slice o2 n2 c2) rfl lc (some ⟨w5.heap.size, 0, none⟩) 1 1 rfl [⟨#[40, 99, 111, 110, 115, 116, 32, 48, 32, 49, 41]⟩] (n2 + 1) HN1.out ?_ ?_ (by omega) ?_ ?_; (first | exact HA.out.rc); (first | exact strsOneAt (heap_alloc_new _ _)); (first | exact hsz); intro o6 c6 w6 hv6 hg6 ho6; have hb6 := (hg6.block B4 HA.out.low.2.2.2 (fun e => HA.out.nc e.symm)).trans HA.out.box; obtain ⟨k0, k1, k2⟩ := cells3 hb6; have kf := Lib.frozen_of_heap hb6 2; have hr6 := HA.out.resC hg6; obtain ⟨r0, r1, r2⟩ := cells3 hr6; have s0 := Lib.frozen_of_heap hr6 0; have s1 := Lib.frozen_of_heap hr6 1; have s2 := Lib.frozen_of_heap hr6 2; have hs6 := hg6.size; have hRB := HA.out.low.1; have hne1 : ¬ w.heap.size = B4 := (by omega); have hne2 : ¬ B4 = w.heap.size := (by omega); have HP := Lib.hid (HA.out.pushC hg6 hv6 ho6 (by decide)); clear hb6 hv6 hg6 ho6 hr6)
    have HE := Lib.hid (DE.fin HP.out hL (by first | omega | (simp; done) | (simp; omega)) (by first | omega | (simp; done) | (simp; omega)) (.string L) (.slice o n c) (.slice o6 (n2 + 1) c6))
    go_wp2
    exact bodyPost_ret (v := .agg #[.string L, .slice o n c, .slice o6 (n2 + 1) c6]) (by simp [results, Tryz.results4, go_sem, r0, r1, r2, hne1, hne2]) rfl HE.out
  by_cases h1 : z = 1
  · subst h1
    have HA := Lib.hid (HD.out.alloc (.cells #[.string ⟨#[118]⟩] 9))
    obtain ⟨d0, d1, d2⟩ := cells3 HD.out.box
    have hB5 := HD.out.low.2.2.2
    have hsz : base ≤ (w5.alloc (.cells #[.string ⟨#[118]⟩] 9)).heap.size := by have := HA.out.low; omega
    have HN1 : Hid (lr.length + 1 = n + 1) := by have := (rowRead HD.out.rr).1; show _ = _; omega
    have hl5 := HA.out.low
    go_wp2_with (at_builtin; refine wpList_append_at rfl (.tmp 26) (.tmp 27) rfl base (.slice o n c) rfl lr (some ⟨w5.heap.size, 0, none⟩) 1 1 rfl [⟨#[118]⟩] (n + 1) HN1.out ?_ ?_ (by omega) ?_ ?_; (first | exact HA.out.rr); (first | exact strsOneAt (heap_alloc_new _ _)); (first | exact hsz); intro o6 c6 w6 hv6 hg6 ho6; have hb6 := (hg6.block B4 HA.out.low.2.2.2 (fun e => HA.out.nr e.symm)).trans HA.out.box; obtain ⟨k0, k1, k2⟩ := cells3 hb6; have kf := Lib.frozen_of_heap hb6 1; have hr6 := HA.out.resR hg6; obtain ⟨r0, r1, r2⟩ := cells3 hr6; have s0 := Lib.frozen_of_heap hr6 0; have s1 := Lib.frozen_of_heap hr6 1; have s2 := Lib.frozen_of_heap hr6 2; have hs6 := hg6.size; have hRB := HA.out.low.1; have hne1 : ¬ w.heap.size = B4 := (by omega); have hne2 : ¬ B4 = w.heap.size := (by omega); have HP := Lib.hid (HA.out.pushR hg6 hv6 ho6 (by decide)); clear hb6 hv6 hg6 ho6 hr6)
    have HE := Lib.hid (DE.fin HP.out hL (by first | omega | (simp; done) | (simp; omega)) (by first | omega | (simp; done) | (simp; omega)) (.string L) (.slice o6 (n + 1) c6) (.slice o2 n2 c2))
    go_wp2
    exact bodyPost_ret (v := .agg #[.string L, .slice o6 (n + 1) c6, .slice o2 n2 c2]) (by simp [results, Tryz.results4, go_sem, r0, r1, r2, hne1, hne2]) rfl HE.out
  by_cases h2 : z = 2
  · subst h2
    obtain ⟨d0, d1, d2⟩ := cells3 HD.out.box
    have hB5 := HD.out.low.2.2.2
    have kf := Lib.frozen_of_heap HD.out.box 2
    generalize hWF : (w5.alloc (.cells #[] 9)).setCell ⟨B4, 2, none⟩ (.slice (some ⟨w5.heap.size, 0, none⟩) 0 0) = WF
    have HF := Lib.hid HD.out.dropC
    rw [hWF] at HF
    obtain ⟨f0, f1, f2⟩ := cells3 HF.out.box
    obtain ⟨r0, r1, r2⟩ := cells3 HF.out.res
    have s0 := Lib.frozen_of_heap HF.out.res 0
    have s1 := Lib.frozen_of_heap HF.out.res 1
    have s2 := Lib.frozen_of_heap HF.out.res 2
    have hBF := HF.out.low.2.2.2
    have hRB : w.heap.size < WF.heap.size := by have := HF.out.low; omega
    have HE := Lib.hid (DE.fin HF.out hL (by first | omega | (simp; done) | (simp; omega)) (by first | omega | (simp; done) | (simp; omega)) (.string L) (.slice o n c) (.slice (some ⟨w5.heap.size, 0, none⟩) 0 0))
    go_wp2
    exact bodyPost_ret (v := .agg #[.string L, .slice o n c, .slice (some ⟨w5.heap.size, 0, none⟩) 0 0]) (by simp [results, Tryz.results4, go_sem, r0, r1, r2]) rfl HE.out
  have hb0 : (z == 0) = false := by simpa using h0
  have hb1 : (z == 1) = false := by simpa using h1
  have hb2 : (z == 2) = false := by simpa using h2
  clear h0 h1 h2
  have HF := HD
  obtain ⟨f0, f1, f2⟩ := cells3 HF.out.box
  obtain ⟨r0, r1, r2⟩ := cells3 HF.out.res
  have s0 := Lib.frozen_of_heap HF.out.res 0
  have s1 := Lib.frozen_of_heap HF.out.res 1
  have s2 := Lib.frozen_of_heap HF.out.res 2
  have hBF := HF.out.low.2.2.2
  have hRB : w.heap.size < w5.heap.size := by have := HF.out.low; omega
  have HE := Lib.hid (DE.fin HF.out hL (by first | omega | (simp; done) | (simp; omega)) (by first | omega | (simp; done) | (simp; omega)) (.string L) (.slice o n c) (.slice o2 n2 c2))
  go_wp2
  exact bodyPost_ret (v := .agg #[.string L, .slice o n c, .slice o2 n2 c2]) (by simp [results, Tryz.results4, go_sem, r0, r1, r2]) rfl HE.out
end Go.Proofs.YtpamfjbgnpmmoaaGreatDoor
