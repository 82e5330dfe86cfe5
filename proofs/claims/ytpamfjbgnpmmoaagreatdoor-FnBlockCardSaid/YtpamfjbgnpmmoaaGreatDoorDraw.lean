/- The contracts of the reader of a drawn code: open, pick, of. -/
import Derived.Test.YtpamfjbgnpmmoaaGreatDoorRow
import Derived.Test.YtpamfjbgnpmmoaaGreatDoorProg
import Derived.WalkKit
import Derived.WalkSpells
import Derived.WalkLawsBesides
import Derived.Lib.Hide
import Derived.Deep.QuietTactic
import Derived.BigQuiet
import Derived.Laws.BitsAllLaws
namespace Go.Proofs.YtpamfjbgnpmmoaaGreatDoor
open Go.RowKit

theorem xor_i64 (x y : Int) (hx0 : 0 ≤ x) (hx : x ≤ 4611686018427387903) (hy0 : 0 ≤ y) (hy : y ≤ 4611686018427387903) :
    0 ≤ bits .xor .i64 x y ∧ bits .xor .i64 x y ≤ 9223372036854775807 := by
  obtain ⟨a, rfl⟩ := Int.eq_ofNat_of_zero_le hx0
  obtain ⟨b, rfl⟩ := Int.eq_ofNat_of_zero_le hy0
  have hlt : a ^^^ b < 2 ^ 63 := Nat.xor_lt_two_pow (by omega) (by omega)
  have h1 : (BitVec.ofInt 64 (a : Int)).toNat = a := by rw [BitVec.ofInt_natCast, BitVec.toNat_ofNat]; exact Nat.mod_eq_of_lt (by omega)
  have h2 : (BitVec.ofInt 64 (b : Int)).toNat = b := by rw [BitVec.ofInt_natCast, BitVec.toNat_ofNat]; exact Nat.mod_eq_of_lt (by omega)
  have e : bits .xor .i64 (a : Int) (b : Int) = IntKind.i64.wrap ((a ^^^ b : Nat) : Int) := by
    show IntKind.i64.wrap ((BitVec.ofInt 64 (a : Int) ^^^ BitVec.ofInt 64 (b : Int)).toNat : Int) = _
    rw [BitVec.toNat_xor, h1, h2]
  rw [e, IntWalk.i64_in _ (by omega)]
  omega

/-- A row of bytes that lies in a world, in a block other than rb. -/
def ByteRow (w : World) (rb : Nat) (a : Option Addr) (len : Nat) : Prop :=
  len = 0 ∨ ∃ b off, a = some ⟨b, off, none⟩ ∧ b < rb ∧ ∀ i, i < len → ∃ z : Nat, z ≤ 255 ∧ w.cell? ⟨b, off + i, none⟩ = some (.int .u8 z)

/-- The reader of a code: its block, and how often it was asked. -/
def Rd (w : World) (rb p : Nat) : Prop :=
  ∃ a len cap, w.heap[rb]? = some (.cells #[.slice a len cap, .int .i64 p] 53 (0, 0)) ∧ len ≤ 2000 ∧ ByteRow w rb a len

theorem Rd.lt {w : World} {rb p : Nat} (h : Rd w rb p) : rb < w.heap.size := by
  obtain ⟨_, _, _, h, _⟩ := h
  exact (Array.getElem?_eq_some_iff.1 h).1

theorem ByteRow.keep {w w' : World} {rb : Nat} {a : Option Addr} {len : Nat} (h : ByteRow w rb a len) (hk : ∀ k, k < w.heap.size → k ≠ rb → w'.heap[k]? = w.heap[k]?) : ByteRow w' rb a len := by
  rcases h with h | ⟨b, off, ha, hb, hc⟩
  · exact .inl h
  · refine .inr ⟨b, off, ha, hb, fun i hi => ?_⟩
    obtain ⟨z, hz, hcz⟩ := hc i hi
    exact ⟨z, hz, (World.cell?_of_block (w := w) (a := ⟨b, off + i, none⟩) (hk b (lt_of_cell hcz) (Nat.ne_of_lt hb))).trans hcz⟩

/-- Nothing turned but the reader's block and new blocks. -/
theorem Rd.grown {w w' : World} {rb p : Nat} (h : Rd w rb p) (hk : ∀ k, k < w.heap.size → w'.heap[k]? = w.heap[k]?) : Rd w' rb p := by
  have hl := h.lt
  obtain ⟨a, len, cap, h1, h2, h3⟩ := h
  exact ⟨a, len, cap, (hk rb hl).trans h1, h2, h3.keep fun k hk' _ => hk k hk'⟩

theorem grownBy_refl (w : World) (row : Option Nat) : w.grownBy w row := ⟨rfl, rfl, rfl, Nat.le_refl _, fun _ _ _ => rfl⟩

theorem grownBy_trans {a b c : World} {row : Option Nat} (h : a.grownBy b row) (k : b.grownBy c row) : a.grownBy c row :=
  ⟨k.os.trans h.os, k.tape.trans h.tape, k.output.trans h.output, Nat.le_trans h.size k.size, fun i hi hr => (k.block i (Nat.lt_of_lt_of_le hi h.size) hr).trans (h.block i hi hr)⟩

theorem grownBy_below {a b : World} {row : Option Nat} (h : Below a.heap.size a b) : a.grownBy b row := ⟨h.os, h.tape, h.output, h.size, fun i hi _ => h.block i hi⟩

theorem Rd.bump {w : World} {rb p : Nat} {a : Option Addr} {len cap : Nat} (h : w.heap[rb]? = some (.cells #[.slice a len cap, .int .i64 p] 53 (0, 0))) (h2 : len ≤ 2000) (h3 : ByteRow w rb a len) :
    Rd (w.setCell ⟨rb, 1, none⟩ (.int .i64 ((p : Int) + 1))) rb (p + 1) ∧ w.grownBy (w.setCell ⟨rb, 1, none⟩ (.int .i64 ((p : Int) + 1))) (some rb) := by
  refine ⟨⟨a, len, cap, ?_, h2, h3.keep fun k _ hk => Below.heap_setCell _ _ _ _ hk⟩, ⟨rfl, rfl, rfl, by simp [World.setCell], fun k _ hk => Below.heap_setCell _ _ _ _ (fun e => hk (by rw [e]))⟩⟩
  simp [World.setCell, Array.getElem?_modify, h]

theorem Rd.drewN {w : World} {rb p : Nat} (h : Rd w rb p) (n : Nat) : Rd (w.drewN n) rb p := h
theorem grownBy_drewN {a w : World} {row : Option Nat} (h : a.grownBy w row) (n : Nat) : a.grownBy (w.drewN n) row := ⟨h.os, h.tape, h.output, h.size, h.block⟩

/-- What pick hands back. -/
def PickR (w : World) (rb p : Nat) (n : Int) (e : Ending) (w' : World) : Prop :=
  ∃ z : Int, e = .returned (.int .i64 z) ∧ 0 ≤ z ∧ z < n ∧ Rd w' rb (p + 1) ∧ w.grownBy w' (some rb)

set_option maxRecDepth 100000 in
set_option maxHeartbeats 1600000 in
theorem pick_any (w : World) (rb p : Nat) (n : Int) (h : Rd w rb p) (hp : p ≤ 1000000000) (h1 : 1 ≤ n) (h2 : n ≤ 1000000) :
    Calls Tryz.prog 12 #[.pointer (some ⟨rb, 0, none⟩), .int .i64 n] w (PickR w rb p n) := by
  have hl := h.lt
  obtain ⟨a, len, cap, hblk, hlen, hrow⟩ := h
  have c0 : w.cell? ⟨rb, 0, none⟩ = some (.slice a len cap) := by simp [World.cell?, hblk]
  have c1 : w.cell? ⟨rb, 1, none⟩ = some (.int .i64 p) := by simp [World.cell?, hblk]
  have fz : w.frozen? ⟨rb, 1, none⟩ = false := by simp [World.frozen?, hblk]
  have HB := Lib.hid hblk
  have HR := Lib.hid hrow
  clear hblk hrow
  by_cases hl0 : len = 0
  · subst hl0
    go_enter Tryz.func12, Tryz.ntmps12
    go_wp2
    go_ret
    have hb := Rd.bump HB.out hlen HR.out
    exact ⟨0, rfl, by omega, by omega, hb.1, hb.2⟩
  · have hlb : ((len : Int) == 0) = false := by simpa using hl0
    obtain ⟨b, off, rfl, hblt, hcells⟩ : ∃ b off, a = some ⟨b, off, none⟩ ∧ b < rb ∧ ∀ i, i < len → ∃ z : Nat, z ≤ 255 ∧ w.cell? ⟨b, off + i, none⟩ = some (.int .u8 z) := by
      rcases HR.out with h | h
      · exact absurd h hl0
      · exact h
    have hbr : b ≠ rb := Nat.ne_of_lt hblt
    have HCL := Lib.hid hcells
    clear hcells
    by_cases hk : p < len
    · obtain ⟨z, hz, hcz⟩ := HCL.out p hk
      have hcz' : (w.setCell ⟨rb, 1, none⟩ (.int .i64 ((p : Int) + 1))).cell? ⟨b, off + p, none⟩ = some (.int .u8 z) :=
        (World.cell?_of_block (w := w) (a := ⟨b, off + p, none⟩) (Below.heap_setCell _ _ _ _ hbr)).trans hcz
      go_enter Tryz.func12, Tryz.ntmps12
      go_wp2
      go_ret
      have hb := Rd.bump HB.out hlen HR.out
      refine ⟨_, rfl, ?_, ?_, hb.1, hb.2⟩
      · exact Int.emod_nonneg _ (by omega)
      · exact Int.emod_lt_of_pos _ (by omega)
    · have hm1 : p % len < len := Nat.mod_lt _ (by omega)
      have hm2 : (p * 7 + 3) % len < len := Nat.mod_lt _ (by omega)
      obtain ⟨z1, hz1, hc1⟩ := HCL.out _ hm1
      obtain ⟨z2, hz2, hc2⟩ := HCL.out _ hm2
      have hcz1 : (w.setCell ⟨rb, 1, none⟩ (.int .i64 ((p : Int) + 1))).cell? ⟨b, off + p % len, none⟩ = some (.int .u8 z1) :=
        (World.cell?_of_block (w := w) (a := ⟨b, off + p % len, none⟩) (Below.heap_setCell _ _ _ _ hbr)).trans hc1
      have hcz2 : (w.setCell ⟨rb, 1, none⟩ (.int .i64 ((p : Int) + 1))).cell? ⟨b, off + (p * 7 + 3) % len, none⟩ = some (.int .u8 z2) :=
        (World.cell?_of_block (w := w) (a := ⟨b, off + (p * 7 + 3) % len, none⟩) (Below.heap_setCell _ _ _ _ hbr)).trans hc2
      have e1 : (p : Int).tmod len = ((p % len : Nat) : Int) := by rw [Int.tmod_eq_emod_of_nonneg (by omega)]; exact (Int.natCast_emod p len).symm
      have e2 : ((p : Int) * 7 + 3).tmod len = (((p * 7 + 3) % len : Nat) : Int) := by
        rw [Int.tmod_eq_emod_of_nonneg (by omega), show (p : Int) * 7 + 3 = ((p * 7 + 3 : Nat) : Int) by omega]
        exact (Int.natCast_emod (p * 7 + 3) len).symm
      have e3 : (p : Int).tdiv len = ((p / len : Nat) : Int) := by rw [Int.tdiv_eq_ediv_of_nonneg (by omega)]; exact (Int.natCast_ediv p len).symm
      have hq : p / len ≤ p := Nat.div_le_self _ _
      generalize p % len = m1 at *
      generalize (p * 7 + 3) % len = m2 at *
      generalize p / len = q at *
      have w1 : IntKind.i64.wrap ((p : Int) * 7) = (p : Int) * 7 := IntWalk.i64_in _ (by omega)
      have w2 : IntKind.i64.wrap ((p : Int) * 7 + 3) = (p : Int) * 7 + 3 := IntWalk.i64_in _ (by omega)
      have w3 : IntKind.i64.wrap (z1 : Int) = z1 := IntWalk.i64_in _ (by omega)
      have w4 : IntKind.i64.wrap (z2 : Int) = z2 := IntWalk.i64_in _ (by omega)
      go_enter Tryz.func12, Tryz.ntmps12
      go_wp2
      go_quiet (fail)
      generalize hX : (z1 : Int) * 131 + z2 * 1117 + p * 29 + q * 53 = X
      have hX0 : 0 ≤ X := by omega
      have hX1 : X ≤ 100000000000 := by omega
      go_wp2
      go_ret
      have hb := Rd.bump HB.out hlen HR.out
      have hx := xor_i64 X (X / 64) hX0 (by omega) (by omega) (by omega)
      refine ⟨_, rfl, ?_, ?_, Rd.drewN hb.1 _, grownBy_drewN hb.2 _⟩
      · exact Int.tmod_nonneg _ hx.1
      · exact Int.tmod_lt_of_pos _ (by omega)

theorem _root_.Go.RowKit.Below.trans_grown {n rb : Nat} {w w1 w2 : World} (h : Below n w w1) (g : w1.grownBy w2 (some rb)) (hr : n ≤ rb) (hs : n ≤ w1.heap.size) : Below n w w2 := by
  refine h.trans ⟨g.os, g.tape, g.output, g.size, fun k hk => ?_⟩
  exact g.block k (Nat.lt_of_lt_of_le hk hs) (by simp; omega)

theorem Rd.alloc {w : World} {rb p : Nat} (h : Rd w rb p) (o : Obj) : Rd (w.alloc o) rb p :=
  h.grown fun k hk => ((Below.refl w.heap.size w).alloc (Nat.le_refl _) o).block k hk

/-- A code as it comes in. -/
def Code (w : World) (a : Option Addr) (len cap : Nat) : Prop :=
  len ≤ cap ∧ cap ≤ maxLen ∧ (len = 0 ∨ ∃ b off, a = some ⟨b, off, none⟩ ∧ ∀ i, i < len → ∃ z : Nat, z ≤ 255 ∧ w.cell? ⟨b, off + i, none⟩ = some (.int .u8 z))

theorem Code.of_row {w : World} {x : Addr} {l c : Nat} {zs : List Int} (hl : l ≤ c) (hm : c ≤ maxLen) (hz : zs.length = c)
    (hcell : ∀ i, i < zs.length → w.cell? (x.add i) = some (.int .u8 (zs.getD i 0))) (hwz : ∀ n ∈ zs, (Lit.int .u8 n).wf = true) : Code w (some x) l c := by
  refine ⟨hl, hm, ?_⟩
  by_cases h0 : l = 0
  · exact .inl h0
  · obtain ⟨b, off, spot⟩ := x
    have hc := hcell 0 (by omega)
    have hspot : spot = none := by simpa [Addr.add] using World.cell?_spot hc
    subst hspot
    refine .inr ⟨b, off, rfl, fun i hi => ?_⟩
    have hi' : i < zs.length := by omega
    have hw := hwz (zs.getD i 0) (by rw [List.getD_eq_getElem?_getD, List.getElem?_eq_getElem hi']; exact List.getElem_mem hi')
    have hci := hcell i hi'
    generalize zs.getD i 0 = z at *
    have hb : 0 ≤ z ∧ z ≤ 255 := by
      simp only [Lit.wf, Bool.and_eq_true, decide_eq_true_eq] at hw
      exact hw
    obtain ⟨k, rfl⟩ := Int.eq_ofNat_of_zero_le hb.1
    refine ⟨k, by omega, ?_⟩
    rwa [Addr.add_lit] at hci

/-- What the opening of a code hands back. -/
def OpenR (w : World) (e : Ending) (w' : World) : Prop :=
  ∃ rb, e = .returned (.pointer (some ⟨rb, 0, none⟩)) ∧ w.heap.size ≤ rb ∧ Rd w' rb 0 ∧ Below w.heap.size w w'

theorem Code.short {w : World} {a : Option Addr} {len cap n : Nat} (h : Code w a len cap) (hn : n ≤ len) (cap' : Nat) (hl : n ≤ 2000) : OpenR w (.returned (.pointer (some ⟨w.heap.size, 0, none⟩))) (w.alloc (.cells #[.slice a n cap', .int .i64 0] 53 (0, 0))) := by
  refine ⟨w.heap.size, rfl, Nat.le_refl _, ⟨a, n, cap', ?_, hl, ?_⟩, (Below.refl _ _).alloc (Nat.le_refl _) _⟩
  · exact heap_alloc_new w _
  rcases h.2.2 with h0 | ⟨b, off, ha, hc⟩
  · exact .inl (by omega)
  · by_cases h0 : len = 0
    · exact .inl (by omega)
    refine .inr ⟨b, off, ha, ?_, fun i hi => ?_⟩
    · obtain ⟨z, hz, hcz⟩ := hc 0 (by omega)
      have := lt_of_cell hcz
      simp at this
      omega
    · obtain ⟨z, hz, hcz⟩ := hc i (by omega)
      exact ⟨z, hz, (((Below.refl w.heap.size w).alloc (Nat.le_refl _) _).cell (p := ⟨b, off + i, none⟩) (lt_of_cell hcz)).trans hcz⟩

set_option maxRecDepth 100000 in
set_option maxHeartbeats 800000 in
theorem l6Open_any (w : World) (a : Option Addr) (len cap : Nat) (h : Code w a len cap) :
    Calls Tryz.prog 9 #[.slice a len cap] w (OpenR w) := by
  have H := Lib.hid h
  have hl := h.1
  have hm := h.2.1
  by_cases hlen : len > 2000
  · rcases h.2.2 with h0 | ⟨b, off, ha, hc⟩
    · omega
    subst ha
    clear hc h
    have hc2 : (2000 : Int) ≤ cap := by omega
    go_enter Tryz.func9, Tryz.ntmps9
    go_wp2
    go_ret
    exact H.out.short (by omega) _ (by omega)
  · clear h
    go_enter Tryz.func9, Tryz.ntmps9
    go_wp2
    go_ret
    exact H.out.short (Nat.le_refl _) _ (by omega)

/-- A row of texts, each of which P holds of. -/
def TextRow (P : ByteArray → Prop) (w : World) (b n : Nat) : Prop := ∀ i, i < n → ∃ s, P s ∧ w.cell? ⟨b, i, none⟩ = some (.string s)

/-- What the drawing of a text out of a row hands back. -/
def OfR (P : ByteArray → Prop) (w : World) (rb p : Nat) (e : Ending) (w' : World) : Prop :=
  ∃ s, e = .returned (.string s) ∧ P s ∧ Rd w' rb p ∧ w.grownBy w' (some rb)

set_option maxRecDepth 100000 in
set_option maxHeartbeats 800000 in
theorem of_any (P : ByteArray → Prop) (w : World) (rb p b n cap : Nat) (h : Rd w rb p) (hp : p ≤ 1000000000) (h1 : 1 ≤ n) (h2 : n ≤ 1000000) (hb : b ≠ rb) (hr : TextRow P w b n) :
    Calls Tryz.prog 11 #[.pointer (some ⟨rb, 0, none⟩), .slice (some ⟨b, 0, none⟩) n cap] w (OfR P w rb (p + 1)) := by
  have HP := Lib.hid (pick_any w rb p n h hp (by omega) (by omega))
  have HR := Lib.hid hr
  clear hr h
  go_enter Tryz.func11, Tryz.ntmps11
  go_wp2_with fail
  refine HP.out.mono ?_
  rintro e w1 ⟨z, rfl, hz0, hz1, hrd, hg⟩
  obtain ⟨i, rfl⟩ := Int.eq_ofNat_of_zero_le hz0
  obtain ⟨s, hs, hc⟩ := HR.out i (by omega)
  have hc1 : w1.cell? ⟨b, i, none⟩ = some (.string s) := (World.cell?_of_block (w := w) (a := ⟨b, i, none⟩) (hg.block b (lt_of_cell hc) (by simp; omega))).trans hc
  clear hc HP HR
  go_wp2
  go_ret
  exact ⟨s, rfl, hs, hrd, hg⟩

end Go.Proofs.YtpamfjbgnpmmoaaGreatDoor
