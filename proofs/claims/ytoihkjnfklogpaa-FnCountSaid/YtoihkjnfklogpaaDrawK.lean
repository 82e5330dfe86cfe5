/- Drawing expressions. -/
import Derived.Test.YtoihkjnfklogpaaDrawE
import Derived.Test.YtoihkjnfklogpaaSides
import Derived.Test.YtoihkjnfklogpaaDec
import Derived.Test.YtoihkjnfklogpaaPlainE
namespace Go.Proofs.Ytoihkjnfklogpaa
open Go.RowKit

/-- The world within a drawing: the reader has been asked at most K times behind p, and nothing that was there has turned but the reader. -/
def St (w0 : World) (rb p K : Nat) (W : World) : Prop := ∃ q, Rd W rb q ∧ q ≤ p + K ∧ w0.grownBy W (some rb)
theorem St.start {w0 : World} {rb p : Nat} (h : Rd w0 rb p) : St w0 rb p 0 w0 := ⟨p, h, Nat.le_refl _, grownBy_refl _ _⟩
theorem St.below {w0 W W' : World} {rb p K : Nat} (h : St w0 rb p K W) (hb : Below W.heap.size W W') : St w0 rb p K W' := by
  obtain ⟨q, h1, h2, h3⟩ := h
  exact ⟨q, h1.grown (fun k hk => hb.block k hk), h2, grownBy_trans h3 (grownBy_below hb)⟩
theorem St.alloc {w0 W : World} {rb p K : Nat} (h : St w0 rb p K W) (o : Obj) : St w0 rb p K (W.alloc o) := h.below ((Below.refl _ _).alloc (Nat.le_refl _) o)
theorem St.drew {w0 W : World} {rb p K : Nat} (h : St w0 rb p K W) : St w0 rb p K W.drew := by
  obtain ⟨q, h1, h2, h3⟩ := h
  exact ⟨q, h1, h2, ⟨h3.os, h3.tape, h3.output, h3.size, h3.block⟩⟩
theorem St.more {w0 W : World} {rb p K K' : Nat} (h : St w0 rb p K W) (hk : K ≤ K') : St w0 rb p K' W := by
  obtain ⟨q, h1, h2, h3⟩ := h
  exact ⟨q, h1, by omega, h3⟩
theorem St.rebase {w0 W : World} {rb p K : Nat} (h : St w0 rb p K W) : St W rb (p + K) 0 W := by
  obtain ⟨q, h1, h2, h3⟩ := h
  exact ⟨q, h1, by omega, grownBy_refl _ _⟩
theorem St.join {w0 W V : World} {rb p K K' : Nat} (h : St w0 rb p K W) (k : St W rb (p + K) K' V) : St w0 rb p (K + K') V := by
  obtain ⟨q, h1, h2, h3⟩ := h
  obtain ⟨q', k1, k2, k3⟩ := k
  exact ⟨q', k1, by omega, grownBy_trans h3 k3⟩
theorem St.set {w0 W : World} {rb p K b : Nat} (h : St w0 rb p K W) (hr : rb < w0.heap.size) (hb : w0.heap.size ≤ b) (i : Nat) (v : Value) : St w0 rb p K (W.setCell ⟨b, i, none⟩ v) := by
  obtain ⟨q, ⟨a, len, cap, k1, k2, k3⟩, h2, h3⟩ := h
  have kp : ∀ k, k ≠ b → (W.setCell ⟨b, i, none⟩ v).heap[k]? = W.heap[k]? := fun k hk => Below.heap_setCell _ _ _ _ hk
  refine ⟨q, ⟨a, len, cap, (kp rb (by omega)).trans k1, k2, ?_⟩, h2, ⟨h3.os, h3.tape, h3.output, by simpa [World.setCell] using h3.size, fun k hk hne => (kp k (by omega)).trans (h3.block k hk hne)⟩⟩
  rcases k3 with h | ⟨c, off, ha, hc, hz⟩
  · exact .inl h
  · refine .inr ⟨c, off, ha, hc, fun j hj => ?_⟩
    obtain ⟨z, z1, z2⟩ := hz j hj
    exact ⟨z, z1, (World.cell?_of_block (w := W) (a := ⟨c, off + j, none⟩) (kp c (by omega))).trans z2⟩
theorem Scoped.set {w : World} {rb M n n2 b : Nat} {o o2 : Option Addr} {ns ts : List ByteArray} (h : Scoped w rb M o n o2 n2 ns ts) (h1 : ∀ a, o = some a → a.block ≠ b) (h2 : ∀ a, o2 = some a → a.block ≠ b) (i : Nat) (v : Value) : Scoped (w.setCell ⟨b, i, none⟩ v) rb M o n o2 n2 ns ts :=
  ⟨h.s1.blocks fun a ha => Below.heap_setCell _ _ _ _ (h1 a ha), h.s2.blocks fun a ha => Below.heap_setCell _ _ _ _ (h2 a ha), h.len, h.max, h.short, h.b1, h.b2⟩
theorem St.lt {w0 W : World} {rb p K : Nat} (h : St w0 rb p K W) : rb < W.heap.size := by
  obtain ⟨q, h1, h2, h3⟩ := h
  exact h1.lt
theorem St.grow {w0 W : World} {rb p K : Nat} (h : St w0 rb p K W) : w0.grownBy W (some rb) := by
  obtain ⟨q, h1, h2, h3⟩ := h
  exact h3
theorem St.step {w0 W W' : World} {rb p K q k : Nat} (hd : Rd W' rb q) (hq : q ≤ p + K + k) (h : w0.grownBy W (some rb)) (hg : W.grownBy W' (some rb)) : St w0 rb p (K + k) W' := ⟨q, hd, by omega, grownBy_trans h hg⟩

/-- What a drawing of a text hands back, within one. -/
def TR (w0 : World) (rb p N K : Nat) (e : Ending) (w' : World) : Prop := ∃ s, e = .returned (.string s) ∧ s.size ≤ N ∧ Hid (St w0 rb p K w')

theorem st_text {f : FuncId} {args : Array Value} {w0 W : World} {rb p K N k : Nat} (h : St w0 rb p K W) (hc : ∀ q, Rd W rb q → q ≤ p + K → Calls Try.prog f args W (DR N k W rb q)) : Calls Try.prog f args W (TR w0 rb p N (K + k)) := by
  obtain ⟨q, h1, h2, h3⟩ := h
  refine (hc q h1 h2).mono ?_
  rintro e w' ⟨s, p', rfl, hs, hrd, hp, hg⟩
  exact ⟨s, rfl, hs, St.step hrd (by omega) h3 hg⟩

theorem st_pick {w0 W : World} {rb p K : Nat} {n : Int} (h : St w0 rb p K W) (hp : p + K ≤ 1000000000) (h1 : 1 ≤ n) (h2 : n ≤ 1000000) :
    Calls Try.prog 68 #[.pointer (some ⟨rb, 0, none⟩), .int .i64 n] W fun e w' => ∃ z : Int, e = .returned (.int .i64 z) ∧ 0 ≤ z ∧ z < n ∧ Hid (St w0 rb p (K + 1) w') := by
  obtain ⟨q, k1, k2, k3⟩ := h
  refine (pick_any W rb q n k1 (by omega) h1 h2).mono ?_
  rintro e w' ⟨z, rfl, hz0, hz1, hrd, hg⟩
  exact ⟨z, rfl, hz0, hz1, St.step hrd (by omega) k3 hg⟩

theorem st_of {w0 W : World} {rb p K b n cap : Nat} {P : ByteArray → Prop} (h : St w0 rb p K W) (hp : p + K ≤ 1000000000) (h1 : 1 ≤ n) (h2 : n ≤ 1000000) (hb : b ≠ rb) (hr : TextRow P W b n) :
    Calls Try.prog 40 #[.pointer (some ⟨rb, 0, none⟩), .slice (some ⟨b, 0, none⟩) n cap] W fun e w' => ∃ s, e = .returned (.string s) ∧ P s ∧ Hid (St w0 rb p (K + 1) w') := by
  obtain ⟨q, k1, k2, k3⟩ := h
  refine (of_any P W rb q b n cap k1 (by omega) h1 h2 hb hr).mono ?_
  rintro e w' ⟨s, rfl, hs, hrd, hg⟩
  exact ⟨s, rfl, hs, St.step hrd (by omega) k3 hg⟩

theorem size_lit (a : Array UInt8) : (ByteArray.mk a).size = a.size := rfl

/-- How long a drawn expression of a depth may be; how often its drawing asks. -/
def sizeE : Nat → Nat
  | 0 => 400000
  | d + 1 => 3 * sizeE d + 60000
def picksE : Nat → Nat
  | 0 => 2
  | d + 1 => 3 * picksE d + 20
theorem sizeE_le (d : Nat) (h : d ≤ 3) : 400000 ≤ sizeE d ∧ sizeE d ≤ 12000000 ∧ picksE d ≤ 400 := by
  have : d = 0 ∨ d = 1 ∨ d = 2 ∨ d = 3 := by omega
  rcases this with rfl | rfl | rfl | rfl <;> decide

theorem sides_size (s h : List UInt8) : ((((sidesOf s h).map fun (x : Tree × Tree) => x.1.txt).getD (⟨#[]⟩ : ByteArray) : ByteArray)).size ≤ 12000 ∧ ((((sidesOf s h).map fun (x : Tree × Tree) => x.2.txt).getD (⟨#[]⟩ : ByteArray) : ByteArray)).size ≤ 12000 := by
  cases hs : sidesOf s h with
  | none => exact ⟨by decide, by decide⟩
  | some xy =>
    obtain ⟨x, y⟩ := xy
    unfold sidesOf at hs
    cases hp : ptype s with
    | none => rw [hp] at hs; cases hs
    | some t =>
      rw [hp] at hs
      simp only [Option.bind_some] at hs
      obtain ⟨a, q, rfl, -⟩ := sideT_iff.1 hs
      have h1 := (sample_ptype hp).2.2.2.1
      have h2 := text_part_le (a := a) (ps := [q, x, y]) (p := x) (by simp)
      have h3 := text_part_le (a := a) (ps := [q, x, y]) (p := y) (by simp)
      exact ⟨Nat.le_trans h2 h1, Nat.le_trans h3 h1⟩

set_option maxRecDepth 100000 in
set_option maxHeartbeats 800000 in
theorem l91Loop_any {w0 W : World} {rb p K : Nat} (h : St w0 rb p K W) (hp : p + K ≤ 1000000) : Calls Try.prog 95 #[.pointer (some ⟨rb, 0, none⟩)] W (TR w0 rb p 200 (K + 3)) := by
  have hlt := h.lt
  go_enter Try.func95, Try.ntmps95
  go_wp2_with fail
  refine (st_of (P := fun s => s.size ≤ 30) (b := W.heap.size) (n := 4) (cap := 4) (h.alloc _) (by omega) (by omega) (by omega) (by omega) ?_).mono ?_
  · refine textRow_new W _ _ ?_
    (repeat (first | exact trivial | (refine ⟨⟨_, rfl, ?_⟩, ?_⟩; · first | assumption | decide | (simp only [ByteArray.size]; decide))))
  rintro e w1 ⟨s1, rfl, hs1, H1⟩
  have hlt1 := H1.out.lt
  go_wp2_with fail
  refine (st_of (P := fun s => s.size ≤ 1) (b := w1.heap.size) (n := 3) (cap := 3) (H1.out.alloc _) (by omega) (by omega) (by omega) (by omega) ?_).mono ?_
  · refine textRow_new w1 _ _ ?_
    (repeat (first | exact trivial | (refine ⟨⟨_, rfl, ?_⟩, ?_⟩; · first | assumption | decide | (simp only [ByteArray.size]; decide))))
  rintro e w2 ⟨s2, rfl, hs2, H2⟩
  go_wp2_with fail
  refine (st_pick H2.out (by omega) (by omega) (by omega)).mono ?_
  rintro e w3 ⟨z, rfl, hz0, hz1, H3⟩
  obtain ⟨k, rfl⟩ := Int.eq_ofNat_of_zero_le hz0
  have hk : (bts (decL k)).size ≤ 10 := by have := decL_len k; rw [Lib.size_eq]; show (decL k).length ≤ 10; omega
  go_wp2_with fail
  refine (l6Dec_any k _ (by omega)).mono ?_
  rintro e w4 ⟨rfl, hb4⟩
  have H4 : Hid (St w0 rb p (K + 1 + 1 + 1) w4) := H3.out.below hb4
  clear hb4
  generalize bts (decL k) = q at *
  go_wp2
  go_ret
  exact ⟨_, rfl, by simp only [ByteArray.size_append, size_lit, List.size_toArray, List.length_cons, List.length_nil]; omega, H4⟩

/-- What a scope and a drawing of a depth give. -/
def ExprC (d : Nat) : Prop := ∀ (w0 W : World) (rb p K M n c n2 c2 : Nat) (o o2 : Option Addr) (ns ts : List ByteArray) (want : ByteArray), St w0 rb p K W → p + K + picksE d ≤ 1000000 → Scoped W rb M o n o2 n2 ns ts → M + 2 * d ≤ 40000 → want.size + 40 * d ≤ 20000 →
  Calls Try.prog 67 #[.pointer (some ⟨rb, 0, none⟩), .agg #[.slice o n c, .slice o2 n2 c2], .string want, .int .i64 d] W (TR w0 rb p (sizeE d) (K + picksE d))

theorem lenLit (a : List UInt8) : (ByteArray.mk a.toArray).size = a.length := by simp [ByteArray.size]

set_option maxRecDepth 100000 in
set_option maxHeartbeats 3200000 in
theorem l91Build_any (d : Nat) (hd : d ≤ 2) (IH : Hid (ExprC d)) (w0 W : World) (rb p K M n c n2 c2 : Nat) (o o2 : Option Addr) (ns ts : List ByteArray) (want : ByteArray) (h : St w0 rb p K W) (hp : p + K + 2 * picksE d + 10 ≤ 1000000) (hs : Scoped W rb M o n o2 n2 ns ts) (hM : M + 2 * (d + 1) ≤ 40000) (hw : want.size + 40 * (d + 1) ≤ 20000) :
    Calls Try.prog 96 #[.pointer (some ⟨rb, 0, none⟩), .agg #[.slice o n c, .slice o2 n2 c2], .string want, .int .i64 (d + 1 : Nat)] W (TR w0 rb p (3 * sizeE d + 50000) (K + (2 * picksE d + 10))) := by
  obtain ⟨z1, z2, z3⟩ := sizeE_le d (by omega)
  have hlt := h.lt
  have HTP := Lib.hid (fun V => sTypePair_any want V (by omega))
  have HTF := Lib.hid (fun V => sTypeFun_any want V (by omega))
  unfold TwoR at HTP HTF
  have hsp := sides_size want.data.toList [42]
  have hsf := sides_size want.data.toList [62]
  generalize (((sidesOf want.data.toList [42]).map fun (x : Tree × Tree) => x.1.txt).getD ⟨#[]⟩) = pa at *
  generalize (((sidesOf want.data.toList [42]).map fun (x : Tree × Tree) => x.2.txt).getD ⟨#[]⟩) = pb at *
  generalize (sidesOf want.data.toList [42]).isSome = pp at *
  generalize (((sidesOf want.data.toList [62]).map fun (x : Tree × Tree) => x.1.txt).getD ⟨#[]⟩) = fc at *
  generalize (((sidesOf want.data.toList [62]).map fun (x : Tree × Tree) => x.2.txt).getD ⟨#[]⟩) = fe at *
  generalize (sidesOf want.data.toList [62]).isSome = ff at *
  have HBX : Hid (∀ V, (W.alloc (.cells #[.slice o n c, .slice o2 n2 c2] 81)).grownBy V (some rb) → V.cell? ⟨W.heap.size, 0, none⟩ = some (.slice o n c) ∧ V.cell? ⟨W.heap.size, 1, none⟩ = some (.slice o2 n2 c2)) := fun V hg => by
    obtain ⟨x, y⟩ := two_new W (.slice o n c) (.slice o2 n2 c2) 81
    exact ⟨hg.cell x (by simp; omega), hg.cell y (by simp; omega)⟩
  have HG : Hid (∀ V, (W.alloc (.cells #[.slice o n c, .slice o2 n2 c2] 81)).grownBy V (some rb) → Scoped V rb M o n o2 n2 ns ts) := fun V hg => (hs.below ((Below.refl _ _).alloc (Nat.le_refl _) _)).grown hg
  -- the drawing goes on from the world with the box: what holds there
  have HW : Hid (∀ V K', St (W.alloc (.cells #[.slice o n c, .slice o2 n2 c2] 81)) rb (p + K) K' V → K' ≤ 2 * picksE d + 10 → St w0 rb p (K + (2 * picksE d + 10)) V) := fun V K' hst hk => by
    obtain ⟨q, k1, k2, k3⟩ := hst
    exact ⟨q, k1, by omega, grownBy_trans (grownBy_alloc h.grow _) k3⟩
  have H0 : Hid (St (W.alloc (.cells #[.slice o n c, .slice o2 n2 c2] 81)) rb (p + K) 0 (W.alloc (.cells #[.slice o n c, .slice o2 n2 c2] 81))) := by
    obtain ⟨q, k1, k2, k3⟩ := h
    exact ⟨q, k1.alloc _, by omega, grownBy_refl _ _⟩
  generalize hW1 : W.alloc (.cells #[.slice o n c, .slice o2 n2 c2] 81) = W1 at *
  have hs1 : Hid (Scoped W1 rb M o n o2 n2 ns ts) := HG.out _ (grownBy_refl _ _)
  have HSS : Hid (∀ K' V, Hid (St W1 rb (p + K) K' V) → V.cell? ⟨W.heap.size, 0, none⟩ = some (.slice o n c) ∧ V.cell? ⟨W.heap.size, 1, none⟩ = some (.slice o2 n2 c2)) := fun K' V hst => HBX.out _ hst.out.grow
  have HIX : Hid (∀ K' (x : ByteArray), K' + picksE d ≤ 2 * picksE d + 10 → x.size ≤ 12000 → ∀ V, Hid (St W1 rb (p + K) K' V) → Calls Try.prog 67 #[.pointer (some ⟨rb, 0, none⟩), .agg #[.slice o n c, .slice o2 n2 c2], .string x, .int .i64 d] V fun e w' => ∃ s, e = .returned (.string s) ∧ s.size ≤ sizeE d ∧ Hid (St W1 rb (p + K) (K' + picksE d) w')) :=
    fun K' x hk hx V hst => IH.out W1 V rb (p + K) K' M n c n2 c2 o o2 ns ts x hst.out (by omega) (HG.out _ hst.out.grow) (by omega) (by omega)
  have hdc : (((d + 1 : Nat) : Int)) - 1 = (d : Int) := by omega
  have hb1s : W1.heap.size = W.heap.size + 1 := by rw [← hW1]; simp
  have HB1S := Lib.hid hb1s
  have hr1 : rb < W.heap.size := hlt
  have HZ2 := Lib.hid z2
  clear hs h HBX
  obtain ⟨x0, x1⟩ := HSS.out _ _ H0
  clear hb1s
  go_enter Try.func96, Try.ntmps96
  go_wp2_with fail
  (try rw [hW1])
  refine (HTP.out _).mono ?_
  rintro e w2 ⟨rfl, hb2⟩
  have H2 : Hid (St W1 rb (p + K) 0 w2) := H0.out.below hb2
  clear hb2 x0 x1
  go_wp2_with fail
  refine (HTF.out _).mono ?_
  rintro e w3 ⟨rfl, hb3⟩
  have H3 : Hid (St W1 rb (p + K) 0 w3) := H2.out.below hb3
  clear hb3 hW1
  obtain ⟨x0, x1⟩ := HSS.out _ _ H3
  have H3D : Hid (St W1 rb (p + K) 0 w3.drew) := H3.out.drew
  cases pp
  · cases ff
    · cases hwi : (want.toList == [105])
      · have HX := H3
        have HLF := Lib.hid (st_text (N := 400000) (k := 2) HX.out (fun q hq hq2 => l91Leaf_any rb q M o o2 n c n2 c2 ns ts want w3 hq (by omega) (HG.out _ HX.out.grow) (by omega) (by omega)))
        obtain ⟨xc0, xc1⟩ := HSS.out _ _ HX
        go_wp2_with fail
        refine HLF.out.mono ?_
        rintro e w20 ⟨s20, rfl, hs20, H20⟩
        go_wp2
        go_ret
        exact ⟨_, rfl, by omega, Lib.hid (HW.out _ _ H20.out (by omega))⟩
      · have hP := st_pick (n := 3) H3.out (by omega) (by omega) (by omega)
        go_wp2_with fail
        refine hP.mono ?_
        rintro e w4 ⟨z, rfl, hz0, hz1, H4⟩
        clear hP
        by_cases hzz : z = 0
        · subst hzz
          have HX := H4
          have HLF := Lib.hid (st_text (N := 400000) (k := 2) HX.out (fun q hq hq2 => l91Leaf_any rb q M o o2 n c n2 c2 ns ts want w4 hq (by omega) (HG.out _ HX.out.grow) (by omega) (by omega)))
          obtain ⟨xc0, xc1⟩ := HSS.out _ _ HX
          go_wp2_with fail
          refine HLF.out.mono ?_
          rintro e w20 ⟨s20, rfl, hs20, H20⟩
          go_wp2
          go_ret
          exact ⟨_, rfl, by omega, Lib.hid (HW.out _ _ H20.out (by omega))⟩
        · have hzp : decide (0 < z) = true := by simp; omega
          obtain ⟨y0, y1⟩ := HSS.out _ _ H4
          have HAL : Hid (St W1 rb (p + K) (0 + 1) (w4.alloc (.cells #[.string ⟨#[43]⟩, .string ⟨#[45]⟩, .string ⟨#[42]⟩] 9)).drew) := (H4.out.alloc _).drew
          have hlt4 := H4.out.lt
          have HOF : Hid (Calls Try.prog 40 #[.pointer (some ⟨rb, 0, none⟩), .slice (some ⟨w4.heap.size, 0, none⟩) 3 3] (w4.alloc (.cells #[.string ⟨#[43]⟩, .string ⟨#[45]⟩, .string ⟨#[42]⟩] 9)).drew fun e w' => ∃ s, e = .returned (.string s) ∧ s.size ≤ 1 ∧ Hid (St W1 rb (p + K) (0 + 1 + 1) w')) := by
            refine st_of (P := fun s => s.size ≤ 1) HAL.out (by omega) (by omega) (by omega) (by omega) ?_
            have hrow : TextRow (fun s => s.size ≤ 1) (w4.alloc (.cells #[.string ⟨#[43]⟩, .string ⟨#[45]⟩, .string ⟨#[42]⟩] 9)) w4.heap.size 3 := by
              refine textRow_new w4 _ _ ?_
              (repeat (first | exact trivial | (refine ⟨⟨_, rfl, ?_⟩, ?_⟩; · first | assumption | decide | (simp only [ByteArray.size]; decide))))
            exact hrow
          have HE1 := Lib.hid (HIX.out (0 + 1 + 1) ⟨#[105]⟩ (by omega) (by decide))
          have HE2 := Lib.hid (HIX.out (0 + 1 + 1 + picksE d) ⟨#[105]⟩ (by omega) (by decide))
          have H4D : Hid (St W1 rb (p + K) (0 + 1) w4.drew) := H4.out.drew
          go_wp2_with fail
          go_region_held3 (fun V => V.cell? ⟨W.heap.size, 0, none⟩ = some (.slice o n c) ∧ V.cell? ⟨W.heap.size, 1, none⟩ = some (.slice o2 n2 c2))
            (first | with_reducible exact HSS.out _ _ H8 | with_reducible exact HSS.out _ _ H7 | with_reducible exact HSS.out _ _ H6 | with_reducible exact HSS.out _ _ HAL | with_reducible exact HSS.out _ _ H4D | with_reducible exact HSS.out _ _ H4)
            (first
              | (go_at_call 40; with_reducible refine HOF.out.mono ?_; rintro e w6 ⟨s6, rfl, hs6, H6⟩; have go1 : ¬ 9223372036854775807 < 1 + s6.size := (by omega); have go2 : ¬ 9223372036854775807 < 1 + s6.size + 1 := (by omega))
              | (go_at_call 67; with_reducible refine (HE1.out _ H6).mono ?_; rintro e w7 ⟨s7, rfl, hs7, H7⟩; have hs7' := Nat.le_trans hs7 HZ2.out; have go3 : ¬ 9223372036854775807 < 1 + s6.size + 1 + s7.size := (by omega); have go4 : ¬ 9223372036854775807 < 1 + s6.size + 1 + s7.size + 1 := (by omega))
              | (go_at_call 67; with_reducible refine (HE2.out _ H7).mono ?_; rintro e w8 ⟨s8, rfl, hs8, H8⟩; have hs8' := Nat.le_trans hs8 HZ2.out; have go5 : ¬ 9223372036854775807 < 1 + s6.size + 1 + s7.size + 1 + s8.size := (by omega); have go6 : ¬ 9223372036854775807 < 1 + s6.size + 1 + s7.size + 1 + s8.size + 1 := (by omega)))
          go_wp2
          go_ret
          exact ⟨_, rfl, by simp only [ByteArray.size_append, size_lit, List.size_toArray, List.length_cons, List.length_nil]; omega, Lib.hid (HW.out _ _ H8.out (by omega))⟩
    · -- a function
      have hlt3 := H3.out.lt
      have hP := st_of (P := fun s => s.size ≤ 2) (b := w3.heap.size) (n := 3) (cap := 3) (H3.out.alloc (.cells #[.string ⟨#[102]⟩, .string ⟨#[103]⟩, .string ⟨#[102, 49]⟩] 9)) (by omega) (by omega) (by omega) (by omega) (by
        refine textRow_new w3 _ _ ?_
        (repeat (first | exact trivial | (refine ⟨⟨_, rfl, ?_⟩, ?_⟩; · first | assumption | decide | (simp only [ByteArray.size]; decide)))))
      go_wp2_with fail
      refine hP.mono ?_
      rintro e w4 ⟨nf, rfl, hnf, H4⟩
      clear hP
      have hlt4 := H4.out.lt
      have hP := st_of (P := fun s => s.size ≤ 2) (b := w4.heap.size) (n := 3) (cap := 3) (H4.out.alloc (.cells #[.string ⟨#[120]⟩, .string ⟨#[122]⟩, .string ⟨#[120, 50]⟩] 9)) (by omega) (by omega) (by omega) (by omega) (by
        refine textRow_new w4 _ _ ?_
        (repeat (first | exact trivial | (refine ⟨⟨_, rfl, ?_⟩, ?_⟩; · first | assumption | decide | (simp only [ByteArray.size]; decide)))))
      go_wp2_with fail
      refine hP.mono ?_
      rintro e w5 ⟨nx, rfl, hnx, H5⟩
      clear hP
      obtain ⟨y0, y1⟩ := HSS.out _ _ H5
      have hlt5 := H5.out.lt
      have HM5 := Lib.hid (l91More_any rb M o o2 n c n2 c2 ns ts nx fc w5 (HG.out _ H5.out.grow) (by omega) hlt5 (by omega))
      go_wp2_with fail
      refine HM5.out.mono ?_
      rintro e w6 ⟨p1, m1, c1', p2, m2, c2', l1, l2, rfl, hsc6, hb6, -, -⟩
      have H6 := Lib.hid (H5.out.below hb6)
      have hrr : rb < W1.heap.size := by have := HB1S.out; omega
      have hW6 : W1.heap.size ≤ w6.heap.size := H6.out.grow.size
      have H6A := Lib.hid (H6.out.alloc (.cells #[.slice p1 m1 c1', .slice p2 m2 c2'] 81))
      have HSC6 := Lib.hid (hsc6.below ((Below.refl _ _).alloc (Nat.le_refl _) (.cells #[.slice p1 m1 c1', .slice p2 m2 c2'] 81)))
      have HNEW := Lib.hid (heap_alloc_new w6 (.cells #[.slice p1 m1 c1', .slice p2 m2 c2'] 81))
      have hl6 : w6.heap.size < (w6.alloc (.cells #[.slice p1 m1 c1', .slice p2 m2 c2'] 81)).heap.size := by simp
      obtain ⟨hf1, hf2⟩ := hsf
      clear hsc6 hb6 y0 y1
      generalize hWA : w6.alloc (.cells #[.slice p1 m1 c1', .slice p2 m2 c2'] 81) = WA at *
      have H6B := Lib.hid H6A.out.rebase
      have HIB : Hid (∀ V, WA.grownBy V (some rb) → V.heap[w6.heap.size]? = some (.cells #[.slice p1 m1 c1', .slice p2 m2 c2'] 81 (0, 0))) := fun V hg => (hg.block _ hl6 (by simp; omega)).trans HNEW.out
      have hP := st_pick (n := 6) H6B.out (by omega) (by omega) (by omega)
      go_wp2_with fail
      (try rw [hWA])
      refine hP.mono ?_
      rintro e w7 ⟨z, rfl, hz0, hz1, H7⟩
      clear hP hWA
      by_cases hzz : z = 0
      · subst hzz
        have H7W := Lib.hid (H6A.out.join H7.out)
        obtain ⟨xx0, xx1⟩ := HSS.out _ _ H7W
        have hlt7 := H7.out.lt
        have HM7 := Lib.hid (l91More_any rb M o o2 n c n2 c2 ns ts nf want w7 (HG.out _ H7W.out.grow) (by omega) hlt7 (by omega))
        go_wp2_with fail
        refine HM7.out.mono ?_
        rintro e w8 ⟨q1, k1, d1, q2, k2, d2, l3, l4, rfl, hsc8, hb8, -, -⟩
        have hlt8 : rb < w8.heap.size := Nat.lt_of_lt_of_le hlt7 hb8.size
        have HM8 := Lib.hid (l91More_any rb (M + 1) q1 q2 k1 d1 k2 d2 l3 l4 nx fc w8 hsc8 (by omega) hlt8 (by omega))
        go_wp2_with fail
        refine HM8.out.mono ?_
        rintro e w9 ⟨r1, t1, f1, r2, t2, f2, l5, l6, rfl, hsc9, hb9, hr91, hr92⟩
        have H9 := Lib.hid ((H7.out.below hb8).below hb9)
        have hb18 := HIB.out _ H9.out.grow
        obtain ⟨g3, g4⟩ := box_cells hb18
        have g5 := Lib.frozen_of_heap hb18 0
        have g6 := Lib.frozen_of_heap hb18 1
        have hs8 : WA.heap.size ≤ w8.heap.size := (H7.out.below hb8).grow.size
        have hbox : ((w9.setCell ⟨w6.heap.size, 0, none⟩ (.slice r1 t1 f1)).setCell ⟨w6.heap.size, 1, none⟩ (.slice r2 t2 f2)).heap[w6.heap.size]? = some (.cells #[.slice r1 t1 f1, .slice r2 t2 f2] 81 (0, 0)) := by
          simp [World.setCell, Array.getElem?_modify, hb18]
        have HX := Lib.hid (((H6A.out.join H9.out).set hrr hW6 0 (.slice r1 t1 f1)).set hrr hW6 1 (.slice r2 t2 f2))
        have HSC9 := Lib.hid ((hsc9.set (b := w6.heap.size) (fun a ha => by have := hr91 a ha; omega) (fun a ha => by have := hr92 a ha; omega) 0 (.slice r1 t1 f1)).set (b := w6.heap.size) (fun a ha => by have := hr91 a ha; omega) (fun a ha => by have := hr92 a ha; omega) 1 (.slice r2 t2 f2))
        have HE := Lib.hid (IH.out W1 _ rb (p + K) _ (M + 1 + 1) t1 f1 t2 f2 r1 r2 l5 l6 fe HX.out (by omega) HSC9.out (by omega) (by omega))
        obtain ⟨j0, j1⟩ := box_cells hbox
        clear hsc8 hb8 hsc9 hb9 hr91 hr92 hb18 hbox xx0 xx1
        go_wp2_with fail
        refine HE.out.mono ?_
        rintro e w20 ⟨s20, rfl, hs20, H20⟩
        have hs20' : s20.size ≤ 12000000 := by omega
        go_wp2
        go_ret
        exact ⟨_, rfl, by simp only [ByteArray.size_append, size_lit, List.size_toArray, List.length_cons, List.length_nil]; omega, Lib.hid (HW.out _ _ H20.out (by omega))⟩
      · have HX := Lib.hid (H6A.out.join H7.out)
        obtain ⟨j0, j1⟩ := box_cells (HIB.out _ H7.out.grow)
        have HE := Lib.hid (IH.out W1 w7 rb (p + K) _ (M + 1) m1 c1' m2 c2' p1 p2 l1 l2 fe HX.out (by omega) (HSC6.out.grown H7.out.grow) (by omega) (by omega))
        go_wp2_with fail
        refine HE.out.mono ?_
        rintro e w20 ⟨s20, rfl, hs20, H20⟩
        have hs20' : s20.size ≤ 12000000 := by omega
        go_wp2
        go_ret
        exact ⟨_, rfl, by simp only [ByteArray.size_append, size_lit, List.size_toArray, List.length_cons, List.length_nil]; omega, Lib.hid (HW.out _ _ H20.out (by omega))⟩
  · -- a pair
    have HE1 := Lib.hid (HIX.out 0 pa (by omega) hsp.1)
    have HE2 := Lib.hid (HIX.out (0 + picksE d) pb (by omega) hsp.2)
    go_wp2_with fail
    go_region_held3 (fun V => V.cell? ⟨W.heap.size, 0, none⟩ = some (.slice o n c) ∧ V.cell? ⟨W.heap.size, 1, none⟩ = some (.slice o2 n2 c2))
      (first | with_reducible exact HSS.out _ _ H8 | with_reducible exact HSS.out _ _ H7 | with_reducible exact HSS.out _ _ H3D | with_reducible exact HSS.out _ _ H3)
      (first
        | (go_at_call 67; with_reducible refine (HE1.out _ H3D).mono ?_; rintro e w7 ⟨s7, rfl, hs7, H7⟩; have hs7' := Nat.le_trans hs7 HZ2.out; have go3 : ¬ 9223372036854775807 < 6 + s7.size := (by omega); have go4 : ¬ 9223372036854775807 < 6 + s7.size + 1 := (by omega))
        | (go_at_call 67; with_reducible refine (HE2.out _ H7).mono ?_; rintro e w8 ⟨s8, rfl, hs8, H8⟩; have hs8' := Nat.le_trans hs8 HZ2.out; have go5 : ¬ 9223372036854775807 < 6 + s7.size + 1 + s8.size := (by omega); have go6 : ¬ 9223372036854775807 < 6 + s7.size + 1 + s8.size + 1 := (by omega)))
    go_wp2
    go_ret
    exact ⟨_, rfl, by simp only [ByteArray.size_append, size_lit, List.size_toArray, List.length_cons, List.length_nil]; omega, Lib.hid (HW.out _ _ H8.out (by omega))⟩
end Go.Proofs.Ytoihkjnfklogpaa
