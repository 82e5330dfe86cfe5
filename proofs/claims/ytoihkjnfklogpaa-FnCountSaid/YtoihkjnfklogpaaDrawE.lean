/- Drawing expressions: scopes. -/
import Derived.Test.YtoihkjnfklogpaaQ2
import Derived.Test.YtoihkjnfklogpaaAlikeW
import Derived.Test.YtoihkjnfklogpaaQ7
import Derived.Deep.RegionHeld3
namespace Go.Proofs.Ytoihkjnfklogpaa
open Go.RowKit

/-- A scope of at most M names: its names and types lie in blocks other than the reader's. -/
structure Scoped (w : World) (rb M : Nat) (o : Option Addr) (n : Nat) (o2 : Option Addr) (n2 : Nat) (ns ts : List ByteArray) : Prop where
  s1 : Strs w o n ns
  s2 : Strs w o2 n2 ts
  len : ns.length = ts.length
  max : ns.length ≤ M
  short : ∀ s ∈ ns, s.size ≤ 3
  b1 : ∀ a, o = some a → a.block ≠ rb
  b2 : ∀ a, o2 = some a → a.block ≠ rb

theorem Scoped.grown {w w' : World} {rb M n n2 : Nat} {o o2 : Option Addr} {ns ts : List ByteArray} (h : Scoped w rb M o n o2 n2 ns ts) (hg : w.grownBy w' (some rb)) : Scoped w' rb M o n o2 n2 ns ts :=
  ⟨h.s1.grown hg (fun a ha e => h.b1 a ha (by simpa using e)), h.s2.grown hg (fun a ha e => h.b2 a ha (by simpa using e)), h.len, h.max, h.short, h.b1, h.b2⟩
theorem Scoped.below {w w' : World} {rb M n n2 : Nat} {o o2 : Option Addr} {ns ts : List ByteArray} (h : Scoped w rb M o n o2 n2 ns ts) (hb : Below w.heap.size w w') : Scoped w' rb M o n o2 n2 ns ts := h.grown (grownBy_below hb)
theorem Scoped.mono {w : World} {rb M M' n n2 : Nat} {o o2 : Option Addr} {ns ts : List ByteArray} (h : Scoped w rb M o n o2 n2 ns ts) (hm : M ≤ M') : Scoped w rb M' o n o2 n2 ns ts := ⟨h.s1, h.s2, h.len, Nat.le_trans h.max hm, h.short, h.b1, h.b2⟩

theorem strsLit1 {w : World} {b : Nat} {x : ByteArray} {ty : TypeId} (h : w.heap[b]? = some (.cells #[.string x] ty (0, 0))) : Strs w (some ⟨b, 0, none⟩) 1 [x] := by
  refine ⟨rfl, .inr ⟨b, 0, rfl, fun i s hi => ?_⟩⟩
  match i, hi with
  | 0, hi => cases hi; simp only [World.cell?, h]; rfl
  | (n + 1), hi => simp at hi

theorem strsLit2 (W : World) (X : Obj) (x : ByteArray) (ty : TypeId) : Strs ((W.alloc X).alloc (.cells #[.string x] ty)) (some ⟨W.heap.size + 1, 0, none⟩) 1 [x] := by
  have h := heap_alloc_new (W.alloc X) (.cells #[.string x] ty)
  rw [World.size_alloc] at h
  exact strsLit1 h

set_option maxRecDepth 100000 in
set_option maxHeartbeats 800000 in
theorem l3With_any (l1 l2 : List ByteArray) (o1 o2 : Option Addr) (n1 c1 n2 c2 : Nat) (w : World) (h1 : Strs w o1 n1 l1) (h2 : Strs w o2 n2 l2) (hl1 : l1.length ≤ 100000) (hl2 : l2.length ≤ 100000) :
    Calls Try.prog 113 #[.slice o1 n1 c1, .slice o2 n2 c2] w (RowR (l1 ++ l2) w) := by
  have HB1 : Hid (Below w.heap.size w (w.alloc (.cells #[] 9))) := (Below.refl _ _).alloc (Nat.le_refl _) _
  have H1 := Lib.hid (h1.keep HB1.out)
  have H2 : Hid (∀ W, Below w.heap.size w W → Strs W o2 n2 l2) := fun W hb => h2.keep hb
  have HE := Lib.hid (SRow.empty w (base := w.heap.size) (Nat.le_refl _))
  clear h1 h2
  go_enter Try.func113, Try.ntmps113
  have HL1 := Lib.hid hl1
  have HL2 := Lib.hid hl2
  clear hl1 hl2
  go_wp2_with (first
    | (at_builtin; refine wpList_append_strs rfl (.tmp 5) (.tmp 6) rfl w.heap.size _ rfl [] _ _ _ rfl l1 HE.out H1.out (by have := HL1.out; simp; omega) (by simp) ?_; intro o' c' w2 hrow2 hg2; have hb2 := HB1.out.grown hg2 (by simp) (fun k hk => (HE.out.lt k hk).1); have HR2 : Hid (SRow w2 w.heap.size (.slice o' l1.length c') l1) := (by have h := hrow2; simp only [List.length_nil, Nat.zero_add, List.nil_append] at h; exact h); have HB2 := Lib.hid hb2; have hsz2 := hb2.size; clear hrow2 hg2 hb2)
    | (at_builtin; refine wpList_append_strs rfl (.tmp 7) (.tmp 8) rfl w.heap.size _ rfl l1 _ _ _ rfl l2 HR2.out (H2.out _ HB2.out) (by (have := HL1.out; have := HL2.out; omega)) hsz2 ?_; intro o3 c3 w3 hrow3 hg3; have HB3 := Lib.hid (HB2.out.grown hg3 hsz2 (fun k hk => (HR2.out.lt k hk).1)); have HR3 := Lib.hid hrow3; clear hrow3 hg3))
  go_ret
  exact ⟨_, rfl, HR3.out, HB3.out⟩

/-- What a name has in a scope. -/
def lookT (ns ts : List ByteArray) (s : ByteArray) : ByteArray := if 0 ≤ lastZ ns s then ts.getD (lastZ ns s).toNat ⟨#[]⟩ else ⟨#[]⟩

set_option maxRecDepth 100000 in
set_option maxHeartbeats 800000 in
theorem l3Look_any (fr tt : List ByteArray) (s : ByteArray) (o o2 : Option Addr) (n c n2 c2 : Nat) (w : World) (h : Strs w o n fr) (h2 : Strs w o2 n2 tt) (hl : fr.length = tt.length) (hn : n ≤ 1000000000) :
    Calls Try.prog 111 #[.slice o n c, .slice o2 n2 c2, .string s] w fun e w' => e = .returned (.string (lookT fr tt s)) ∧ w = w' := by
  have H := Lib.hid h
  have H2 := Lib.hid h2
  have HL := Lib.hid h.1
  have HL2 : Hid (n2 = n) := by show _ = _; rw [h2.1, h.1, hl]
  have hn2 : (n2 : Int) = (n : Int) := by rw [HL2.out]
  clear h h2
  go_enter Try.func111, Try.ntmps111
  go_wp2
  go_loop [7] (fun i => ∃ k : Nat, k ≤ n ∧ i = .int .i64 ((k : Int) - 1) ∧ Hid (∀ j : Nat, k ≤ j → fr[j]? ≠ some s)) (fun i => (intOf i + 1).toNat)
  case atStart => exact ⟨n, Nat.le_refl _, by go_num, fun j hj => by rw [List.getElem?_eq_none (by rw [← HL.out]; exact hj)]; simp⟩
  case round =>
    obtain ⟨k, hk, rfl, HN⟩ := hrel
    by_cases hz : k = 0
    · subst hz
      have HF : Hid (lookT fr tt s = ⟨#[]⟩) := by
        show _ = _
        unfold lookT
        rw [if_neg (by rw [isLast_no HN.out]; decide)]
      go_wp2
      go_ret
      exact ⟨congrArg (fun x => Ending.returned (.string x)) HF.out.symm, rfl⟩
    · obtain ⟨m, rfl⟩ : ∃ m, k = m + 1 := ⟨k - 1, by omega⟩
      obtain ⟨b, off, x, rfl, hx, hc⟩ := H.out.at (show m < n by omega)
      obtain ⟨b2, off2, y, rfl, hy, hc2⟩ := H2.out.at (show m < n2 by have := HL2.out; omega)
      have HX := Lib.hid hx
      have HY := Lib.hid hy
      have hm0 : (0 : Int) ≤ (m : Int) := by omega
      have hm1 : (m : Int) < (n : Int) := by omega
      have hm3 : (m : Int) < (n2 : Int) := by omega
      have hm2 : ((m + 1 : Nat) : Int) - 1 = (m : Int) := by omega
      rw [hm2]
      clear hx hy hm2 hn2
      by_cases hs : x.toList = s.toList
      · have hb : (x.toList == s.toList) = true := by simpa using hs
        have hxs : x = s := by
          have h2 : (x.toList == s.toList) = true := by simpa using hs
          simpa [toList_inj] using h2
        have HF : Hid (lookT fr tt s = y) := by
          show _ = _
          unfold lookT
          have e := isLast_at (k := m) (by rw [HX.out, hxs]) HN.out
          rw [if_pos (by rw [e]; omega), e]
          have hY := HY.out
          show tt.getD m ⟨#[]⟩ = y
          rw [List.getD_eq_getElem?_getD, hY]; rfl
        clear hs hxs
        go_wp2
        go_ret
        exact ⟨congrArg (fun x => Ending.returned (.string x)) HF.out.symm, rfl⟩
      · have hb : (x.toList == s.toList) = false := by simpa using hs
        have HN2 : Hid (∀ j : Nat, m ≤ j → fr[j]? ≠ some s) := fun j hj => by
          by_cases e : j = m
          · subst e
            rw [HX.out]
            intro e
            apply hs
            rw [Option.some.inj e]
          · exact HN.out j (by omega)
        clear hs
        go_wp2
        go_round
        case rel => exact ⟨m, by omega, by go_num, HN2⟩
        case measure => simp [intOf]

/-- What the growing of a scope hands back. -/
def MoreR (rb M : Nat) (w : World) (e : Ending) (w' : World) : Prop :=
  ∃ o n c o2 n2 c2 ns ts, e = .returned (.agg #[.slice o n c, .slice o2 n2 c2]) ∧ Scoped w' rb M o n o2 n2 ns ts ∧ Below w.heap.size w w' ∧ (∀ a, o = some a → w.heap.size ≤ a.block) ∧ (∀ a, o2 = some a → w.heap.size ≤ a.block)

theorem rowR_form {f : FuncId} {args : Array Value} {W : World} {l : List ByteArray} (h : Calls Try.prog f args W (RowR l W)) : Calls Try.prog f args W fun e w' => ∃ o5 c5, e = .returned (.slice o5 l.length c5) ∧ SRow w' W.heap.size (.slice o5 l.length c5) l ∧ Below W.heap.size W w' :=
  h.mono fun e w' ⟨v, he, hr, hb⟩ => by
    obtain ⟨o, c, hv, -⟩ := hr.forms
    rw [hv] at he hr
    exact ⟨o, c, he, hr, hb⟩

theorem Scoped.of_rows {w : World} {rb M base n n2 c c2 : Nat} {o o2 : Option Addr} {ns ts : List ByteArray} (h1 : SRow w base (.slice o n c) ns) (h2 : SRow w base (.slice o2 n2 c2) ts) (hb : rb < base) (hl : ns.length = ts.length) (hM : ns.length ≤ M) (hs : ∀ s ∈ ns, s.size ≤ 3) : Scoped w rb M o n o2 n2 ns ts :=
  ⟨h1.read, h2.read, hl, hM, hs, fun a ha e => by have := (h1.addr a ha).1; omega, fun a ha e => by have := (h2.addr a ha).1; omega⟩

theorem more_end {w W2 w5 w6 : World} {rb M b5 b6 c5 c6 : Nat} {o5 o6 : Option Addr} {ns ts : List ByteArray} {x k : ByteArray} (hZ : W2.heap.size = w.heap.size + 2) (hr : rb < w.heap.size) (h5 : SRow w5 b5 (.slice o5 (ns.length + 1) c5) (ns ++ [x])) (hb5 : W2.heap.size ≤ b5)
    (h56 : Below w5.heap.size w5 w6) (h6 : SRow w6 b6 (.slice o6 (ts.length + 1) c6) (ts ++ [k])) (hb6 : W2.heap.size ≤ b6) (hB : Below w.heap.size w w6) (hl : ns.length = ts.length) (hm : ns.length ≤ M) (hs : ∀ s ∈ ns, s.size ≤ 3) (hx : x.size ≤ 3) (v0 v1 : Value) :
    MoreR rb (M + 1) w (.returned (.agg #[.slice o5 (ns.length + 1) c5, .slice o6 (ts.length + 1) c6])) ((w6.setCell ⟨w.heap.size + 1, 0, none⟩ v0).setCell ⟨w.heap.size + 1, 1, none⟩ v1) := by
  have h5' := h5.below h56
  have kp : ∀ b, b ≠ w.heap.size + 1 → ((w6.setCell ⟨w.heap.size + 1, 0, none⟩ v0).setCell ⟨w.heap.size + 1, 1, none⟩ v1).heap[b]? = w6.heap[b]? := fun b hb =>
    (Below.heap_setCell _ _ _ _ hb).trans (Below.heap_setCell _ _ _ _ hb)
  refine ⟨o5, ns.length + 1, c5, o6, ts.length + 1, c6, ns ++ [x], ts ++ [k], rfl, ⟨?_, ?_, by simp [hl], by simp; omega, ?_, ?_, ?_⟩, (hB.setCell (by simp) _).setCell (by simp) _, fun a ha => by have := (h5'.addr a ha).1; omega, fun a ha => by have := (h6.addr a ha).1; omega⟩
  · exact h5'.read.blocks fun a ha => kp _ (by have := (h5'.addr a ha).1; omega)
  · exact h6.read.blocks fun a ha => kp _ (by have := (h6.addr a ha).1; omega)
  · intro s hs'
    rcases List.mem_append.1 hs' with h | h
    · exact hs s h
    · rw [List.mem_singleton] at h; rw [h]; exact hx
  · intro a ha e; have := (h5'.addr a ha).1; omega
  · intro a ha e; have := (h6.addr a ha).1; omega

set_option maxRecDepth 100000 in
set_option maxHeartbeats 1600000 in
theorem l91More_any (rb M : Nat) (o o2 : Option Addr) (n c n2 c2 : Nat) (ns ts : List ByteArray) (x k : ByteArray) (w : World) (h : Scoped w rb M o n o2 n2 ns ts) (hM : M ≤ 50000) (hr : rb < w.heap.size) (hx : x.size ≤ 3) :
    Calls Try.prog 94 #[.agg #[.slice o n c, .slice o2 n2 c2], .string x, .string k] w (MoreR rb (M + 1) w) := by
  have hl := h.len
  have hm := h.max
  have HS := Lib.hid h
  have hB0 : Below (w.heap.size + 1) (w.alloc (.cells #[.slice o n c, .slice o2 n2 c2] 81)) (((w.alloc (.cells #[.slice o n c, .slice o2 n2 c2] 81)).alloc (.cells #[.slice none 0 0, .slice none 0 0] 81)).drew) := (((Below.refl _ _).alloc (by simp) _).drew)
  generalize hW2 : ((w.alloc (.cells #[.slice o n c, .slice o2 n2 c2] 81)).alloc (.cells #[.slice none 0 0, .slice none 0 0] 81)) = W2 at hB0
  have hsz2 : W2.heap.size = w.heap.size + 2 := by rw [← hW2]; simp
  have hnew : W2.heap[w.heap.size + 1]? = some (.cells #[.slice none 0 0, .slice none 0 0] 81 (0, 0)) := by
    have h := heap_alloc_new (w.alloc (.cells #[.slice o n c, .slice o2 n2 c2] 81)) (.cells #[.slice none 0 0, .slice none 0 0] 81)
    rw [hW2, World.size_alloc] at h; exact h
  have HW1 : Hid (Below w.heap.size w (w.alloc (.cells #[.slice o n c, .slice o2 n2 c2] 81))) := (Below.refl _ _).alloc (Nat.le_refl _) _
  have HB2 : Hid (Below (w.heap.size + 1) (w.alloc (.cells #[.slice o n c, .slice o2 n2 c2] 81)) W2) := by rw [← hW2]; exact (Below.refl _ _).alloc (by simp) _
  have hbox := two_new w (.slice o n c) (.slice o2 n2 c2) 81
  have HC1 : Hid (∀ W, Below (w.heap.size + 1) (w.alloc (.cells #[.slice o n c, .slice o2 n2 c2] 81)) W → W.cell? ⟨w.heap.size, 0, none⟩ = some (.slice o n c) ∧ W.cell? ⟨w.heap.size, 1, none⟩ = some (.slice o2 n2 c2)) := fun W hb => ⟨(hb.cell (by simp)).trans hbox.1, (hb.cell (by simp)).trans hbox.2⟩
  have HJ : Hid (∀ W, Below W2.heap.size W2 W → Below (w.heap.size + 1) (w.alloc (.cells #[.slice o n c, .slice o2 n2 c2] 81)) W) := fun W hb => HB2.out.trans (hb.mono (by omega))
  have HBX : Hid (∀ W, Below W2.heap.size W2 W → W.cell? ⟨w.heap.size, 0, none⟩ = some (.slice o n c) ∧ W.cell? ⟨w.heap.size, 1, none⟩ = some (.slice o2 n2 c2)) := fun W hb => HC1.out _ (HJ.out _ hb)
  have HBW : Hid (∀ W, Below W2.heap.size W2 W → Below w.heap.size w W) := fun W hb => HW1.out.trans ((HJ.out _ hb).mono (by omega))
  have HAL : Hid (∀ (W : World) (ob : Obj), Below W2.heap.size W2 W → Below W2.heap.size W2 (W.alloc ob)) := fun W ob h => h.alloc h.size ob
  have HTR : Hid (∀ (W W' : World), Below W2.heap.size W2 W → Below W.heap.size W W' → Below W2.heap.size W2 W') := fun W W' h h' => h.trans (h'.mono h.size)
  have HBO : Hid (∀ W, Below W2.heap.size W2 W → W.cell? ⟨w.heap.size + 1, 0, none⟩ = some (.slice none 0 0) ∧ W.cell? ⟨w.heap.size + 1, 1, none⟩ = some (.slice none 0 0) ∧ W.frozen? ⟨w.heap.size + 1, 0, none⟩ = false ∧ W.frozen? ⟨w.heap.size + 1, 1, none⟩ = false) := fun W hb => by
    have h := (hb.block (w.heap.size + 1) (by omega)).trans hnew
    exact ⟨(box_cells h).1, (box_cells h).2, Lib.frozen_of_heap h 0, Lib.frozen_of_heap h 1⟩
  have HST : Hid (∀ W, Below W2.heap.size W2 W → ∀ v0 v1, ((W.setCell ⟨w.heap.size + 1, 0, none⟩ v0).setCell ⟨w.heap.size + 1, 1, none⟩ v1).cell? ⟨w.heap.size, 0, none⟩ = some (.slice o n c) ∧ ((W.setCell ⟨w.heap.size + 1, 0, none⟩ v0).setCell ⟨w.heap.size + 1, 1, none⟩ v1).cell? ⟨w.heap.size, 1, none⟩ = some (.slice o2 n2 c2)) := fun W hb v0 v1 =>
    HC1.out _ (((HJ.out _ hb).setCell (by simp) _).setCell (by simp) _)
  have hrfl : Below W2.heap.size W2 W2 := Below.refl _ _
  have H1 : Hid (∀ W o1 n1 c1, Below W2.heap.size W2 W → Strs W o1 n1 [x] → Calls Try.prog 113 #[.slice o n c, .slice o1 n1 c1] W fun e w' => ∃ o5 c5, e = .returned (.slice o5 (ns.length + 1) c5) ∧ SRow w' W.heap.size (.slice o5 (ns.length + 1) c5) (ns ++ [x]) ∧ Below W.heap.size W w' ∧ Below W2.heap.size W2 w') := fun W o1 n1 c1 hb hx => (rowR_form (l3With_any ns [x] o o1 n c n1 c1 W (h.s1.keep (HBW.out _ hb)) hx (by omega) (by simp))).mono fun e w' ⟨o5, c5, h1, h2, h3⟩ => ⟨o5, c5, by rw [h1]; simp, by simpa using h2, h3, HTR.out _ _ hb h3⟩
  have H2 : Hid (∀ W o1 n1 c1, Below W2.heap.size W2 W → Strs W o1 n1 [k] → Calls Try.prog 113 #[.slice o2 n2 c2, .slice o1 n1 c1] W fun e w' => ∃ o5 c5, e = .returned (.slice o5 (ts.length + 1) c5) ∧ SRow w' W.heap.size (.slice o5 (ts.length + 1) c5) (ts ++ [k]) ∧ Below W.heap.size W w' ∧ Below W2.heap.size W2 w') := fun W o1 n1 c1 hb hx => (rowR_form (l3With_any ts [k] o2 o1 n2 c2 n1 c1 W (h.s2.keep (HBW.out _ hb)) hx (by omega) (by simp))).mono fun e w' ⟨o5, c5, h1, h2, h3⟩ => ⟨o5, c5, by rw [h1]; simp, by simpa using h2, h3, HTR.out _ _ hb h3⟩
  have HZ2 := Lib.hid hsz2
  have HLM := Lib.hid (And.intro hl hm)
  clear h hB0 hnew hbox HC1 hsz2 hl hm
  go_enter Try.func94, Try.ntmps94
  go_wp2_with fail
  (try rw [hW2])
  clear hW2
  go_region_held3 (fun W => W.cell? ⟨w.heap.size, 0, none⟩ = some (.slice o n c) ∧ W.cell? ⟨w.heap.size, 1, none⟩ = some (.slice o2 n2 c2))
    (first | with_reducible exact HS6.out | (with_reducible refine HBX.out _ ?_; focus ((repeat' (first | with_reducible assumption | with_reducible exact Below.refl _ _ | with_reducible refine Below.drew ?_ | with_reducible refine HAL.out _ _ ?_)); done)))
    (first
      | (go_at_call 113; with_reducible refine (H1.out _ _ _ _ ?_ ?_).mono ?_; (focus ((repeat' (first | with_reducible assumption | with_reducible exact Below.refl _ _ | with_reducible refine Below.drew ?_ | with_reducible refine HAL.out _ _ ?_)); done)); (first | with_reducible exact strs_drew (strsLit1 (heap_alloc_new _ _)) | with_reducible exact strs_drew (strs_alloc (strsLit1 (heap_alloc_new _ _))) | with_reducible exact strs_drew (strsLit2 _ _ _ _)); rintro e w5 ⟨o5, c5, rfl, hrow5, hb5, hB5⟩)
      | (go_at_call 113; with_reducible refine (H2.out _ _ _ _ ?_ ?_).mono ?_; (focus ((repeat' (first | with_reducible assumption | with_reducible exact Below.refl _ _ | with_reducible refine Below.drew ?_ | with_reducible refine HAL.out _ _ ?_)); done)); (first | with_reducible exact strsLit1 (heap_alloc_new _ _) | (with_reducible refine Strs.keep ?_ hb5; first | with_reducible exact strs_drew (strs_alloc (strsLit1 (heap_alloc_new _ _))) | with_reducible exact strs_drew (strsLit2 _ _ _ _))); rintro e w6 ⟨o6, c6, rfl, hrow6, hb6, hB6⟩; obtain ⟨g3, g4, g5, g6⟩ := HBO.out _ hB6; have HS6 := Lib.hid (HST.out _ hB6 (.slice o5 (ns.length + 1) c5) (.slice o6 (ts.length + 1) c6))))
  all_goals
    go_wp2
    exact bodyPost_ret (v := .agg #[.slice o5 (ns.length + 1) c5, .slice o6 (ts.length + 1) c6]) (by simp [results, Try.results94, go_sem, g3, g4]) rfl
      (more_end HZ2.out hr hrow5 (by first | exact (HAL.out _ _ hrfl).drew.size | exact (HAL.out _ _ (HAL.out _ _ hrfl)).drew.size) (by first | exact hb6 | exact ((Below.refl _ _).alloc (Nat.le_refl _) _).trans (hb6.mono (by simp))) hrow6 (by first | exact hB5.size | (simp only [World.size_alloc]; have := hB5.size; omega)) (HBW.out _ hB6) HLM.out.1 HLM.out.2 HS.out.short hx _ _)

/-- How long a drawn leaf may be. -/
def leafMax : Nat := 400000

theorem exprOf_size {s : List UInt8} {x : ByteArray} (h : exprOfT s = some x) : x.size ≤ 400000 := by
  unfold exprOfT at h
  cases hp : ptype s with
  | none => rw [hp] at h; cases h
  | some t =>
    rw [hp] at h
    have h1 := (sample_ptype hp).2.1
    simp only [Option.bind_some] at h
    split at h
    · cases h
      exact h1
    · cases h
set_option maxRecDepth 100000 in
set_option maxHeartbeats 1600000 in
theorem l91Leaf_any (rb p M : Nat) (o o2 : Option Addr) (n c n2 c2 : Nat) (ns ts : List ByteArray) (want : ByteArray) (w : World) (hd : Rd w rb p) (hp : p ≤ 1000000) (h : Scoped w rb M o n o2 n2 ns ts) (hM : M ≤ 50000) (hw : want.size ≤ 1000000) :
    Calls Try.prog 92 #[.pointer (some ⟨rb, 0, none⟩), .agg #[.slice o n c, .slice o2 n2 c2], .string want] w (DR 400000 2 w rb p) := by
  have hlt := hd.lt
  have HLN := Lib.hid h.s1.1
  have hnn : n ≤ M := by rw [h.s1.1]; exact h.max
  have HSC := Lib.hid h
  have HRD := Lib.hid hd
  have HLK : Hid (∀ (x : ByteArray) W, Below w.heap.size w W → ∀ k, Calls Try.prog 111 #[.slice o n c, .slice o2 n2 c2, .string x] (W.drewN k) fun e w' => e = .returned (.string (lookT ns ts x)) ∧ w' = W.drewN k) := fun x W hb k => (l3Look_any ns ts x o o2 n c n2 c2 (W.drewN k) (h.s1.keep (below_drewN hb _)) (h.s2.keep (below_drewN hb _)) h.len (by omega)).mono fun _ _ h => ⟨h.1, h.2.symm⟩
  have HBX : Hid (∀ W, Below (w.heap.size + 1) (w.alloc (.cells #[.slice o n c, .slice o2 n2 c2] 81)) W → W.cell? ⟨w.heap.size, 0, none⟩ = some (.slice o n c) ∧ W.cell? ⟨w.heap.size, 1, none⟩ = some (.slice o2 n2 c2) ∧ Below w.heap.size w W) := fun W hb => by
    obtain ⟨x, y⟩ := two_new w (.slice o n c) (.slice o2 n2 c2) 81
    exact ⟨(hb.cell (by simp)).trans x, (hb.cell (by simp)).trans y, ((Below.refl _ _).alloc (Nat.le_refl _) _).trans (hb.mono (by simp))⟩
  clear h hd
  have HEO2 := Lib.hid (fun W => sExprOf_any want W (by omega))
  unfold StrR at HEO2
  have HEO := HEO2
  have HB0 : Hid (Below (w.heap.size + 1) (w.alloc (.cells #[.slice o n c, .slice o2 n2 c2] 81)) ((w.alloc (.cells #[.slice o n c, .slice o2 n2 c2] 81)).alloc (.cells #[] 9))) := (Below.refl _ _).alloc (by simp) _
  have HR0 : Hid (SRow ((w.alloc (.cells #[.slice o n c, .slice o2 n2 c2] 81)).alloc (.cells #[] 9)) (w.heap.size + 1) (.slice (some ⟨w.heap.size + 1, 0, none⟩) 0 0) []) := by
    have h := SRow.empty (w.alloc (.cells #[.slice o n c, .slice o2 n2 c2] 81)) (base := w.heap.size + 1) (by simp)
    rw [World.size_alloc] at h; exact h
  go_enter Try.func92, Try.ntmps92
  go_wp2_with fail
  go_loopw [7, 8] (fun fv iv wr => ∃ (i : Nat) (lv : Value) (l : List ByteArray), i ≤ n ∧ iv = .int .i64 i ∧ fv = lv ∧ Hid (SRow wr (w.heap.size + 1) lv l) ∧ l.length ≤ i ∧ Hid (∀ s ∈ l, s.size ≤ 3) ∧ Hid (Below (w.heap.size + 1) (w.alloc (.cells #[.slice o n c, .slice o2 n2 c2] 81)) wr)) (fun _ iv _ => n - (intOf iv).toNat)
  case atStart => exact ⟨0, _, [], Nat.zero_le _, rfl, rfl, HR0, Nat.le_refl _, fun s hs => by simp at hs, HB0⟩
  case round =>
    obtain ⟨i, lv, l, hi, rfl, rfl, HR, hl, HS3, HB⟩ := hrel
    obtain ⟨x0, x1, hBw⟩ := HBX.out _ HB.out
    obtain ⟨lo, lc, rfl, -⟩ := HR.out.forms
    have hszw : w.heap.size + 1 ≤ wr.heap.size := by have := HB.out.size; simpa using this
    have HBW := Lib.hid hBw
    clear hBw
    obtain ⟨m, hm⟩ : ∃ m, l.length = m := ⟨_, rfl⟩
    have HM := Lib.hid hm
    rw [hm] at HR hl ⊢
    clear hm
    by_cases hin : i < n
    · obtain ⟨b, off, x, rfl, hx, hc⟩ := (HSC.out.s1.keep HBW.out).at hin
      have hx3 : x.size ≤ 3 := HSC.out.short x (List.mem_of_getElem? hx)
      have hi0 : (0 : Int) ≤ (i : Int) := by omega
      have hi1 : (i : Int) < (n : Int) := by omega
      have HQ := Lib.hid (HLK.out x wr HBW.out)
      clear hx
      generalize lookT ns ts x = y at *
      go_wp2_with fail
      go_quiet (with_reducible first | exact Calls.quiet_of_same (HQ.out _))
      cases hyw : (y.toList == want.toList)
      · have HBD : Hid (Below (w.heap.size + 1) (w.alloc (.cells #[.slice (some ⟨b, off, none⟩) n c, .slice o2 n2 c2] 81)) (wr.drewN nq)) := below_drewN HB.out nq
        have HRD2 : Hid (SRow (wr.drewN nq) (w.heap.size + 1) (.slice lo m lc) l) := HR.out.below (below_drewN (Below.refl _ _) nq)
        go_wp2
        go_roundw
        case rel => exact ⟨i + 1, _, l, by omega, by go_num, rfl, HRD2, by have := HM.out; omega, HS3, HBD⟩
        case measure => simp [intOf]; omega
      · have HBD : Hid (Below (w.heap.size + 1) (w.alloc (.cells #[.slice (some ⟨b, off, none⟩) n c, .slice o2 n2 c2] 81)) ((wr.drewN nq).alloc (.cells #[.string x] 9))) := (below_drewN HB.out nq).alloc hszw _
        have HRD2 : Hid (SRow (wr.drewN nq) (w.heap.size + 1) (.slice lo m lc) l) := HR.out.below (below_drewN (Below.refl _ _) nq)
        have HOW : Hid (∀ k, (Value.slice lo m lc).ownBlock = some k → w.heap.size + 1 ≤ k) := fun k hk => (HRD2.out.lt k hk).1
        have hln : l.length ≤ 1000000000 := by have := HM.out; omega
        go_wp2_with (at_builtin; refine wpList_append_str rfl (.tmp 31) (.tmp 37) rfl (w.heap.size + 1) _ rfl l _ 1 rfl x rfl HRD2.out hln hszw ?_; intro g2 cap2 w5 hrow5 hg5 hown5)
        have HR5 := Lib.hid hrow5
        have HB5 := Lib.hid (HBD.out.grown hg5 (by simp; omega) HOW.out)
        have HS5 : Hid (∀ s ∈ l ++ [x], s.size ≤ 3) := fun s hs => by
          rcases List.mem_append.1 hs with h | h
          · exact HS3.out s h
          · rw [List.mem_singleton] at h; rw [h]; exact hx3
        clear hrow5 hg5 hown5
        go_wp2
        go_roundw
        case rel => exact ⟨i + 1, _, l ++ [x], by omega, by go_num, rfl, by first | exact HR5 | simpa using HR5, by have := HM.out; simp; omega, HS5, HB5⟩
        case measure => simp [intOf]; omega
    · have HRDW : Hid (Rd wr rb p) := HRD.out.grown (fun k hk => HBW.out.block k hk)
      have HGW : Hid (w.grownBy wr (some rb)) := grownBy_below HBW.out
      by_cases hm0 : m = 0
      · subst hm0
        have HRDX := HRDW
        have HGX := HGW
        cases hwi : (want.toList == [105])
        · clear HEO
          go_wp2_with fail
          refine (HEO2.out _).mono ?_
          rintro e w6 ⟨rfl, hb6⟩
          have hrd6 := HRDX.out.grown (fun k hk => hb6.block k hk)
          have hg6 := grownBy_trans HGX.out (grownBy_below hb6)
          cases hx : exprOfT want.data.toList with
          | none =>
            go_wp2
            go_ret
            exact ⟨_, _, rfl, by decide, hrd6, by omega, hg6⟩
          | some x =>
            have hxs := exprOf_size hx
            clear hx
            go_wp2
            go_ret
            exact ⟨_, _, rfl, hxs, hrd6, by omega, hg6⟩
        · have hrdx := HRDX.out
          have hltx := hrdx.lt
          go_wp2_with fail
          refine (of_any (fun s => s.size ≤ 5) _ rb _ wr.heap.size 8 8 (hrdx.alloc _) (by omega) (by omega) (by omega) (by omega) ?_).mono ?_
          · refine textRow_new wr _ _ ?_
            (repeat (first | exact trivial | (refine ⟨⟨_, rfl, ?_⟩, ?_⟩; · first | assumption | decide | (simp only [ByteArray.size]; decide))))
          · rintro e w6 ⟨s2, rfl, hs2, hrd6, hg6⟩
            go_wp2
            go_ret
            exact ⟨_, _, rfl, by omega, hrd6, by omega, grownBy_trans (grownBy_alloc HGX.out _) hg6⟩
      · have hmp : 0 < m := by omega
        have hmd : decide (0 < (m : Int)) = true := by simp; omega
        have hP := pick_any wr rb p 4 HRDW.out (by omega) (by omega) (by omega)
        go_wp2_with fail
        refine hP.mono ?_
        rintro e w3 ⟨z, rfl, hz0, hz1, hrd3, hg3⟩
        have HG3 := Lib.hid (grownBy_trans HGW.out hg3)
        have HRD3 := Lib.hid hrd3
        have HST3 := Lib.hid (HR.out.read.grown hg3 (fun a ha e => by have := (HR.out.addr a ha).1; simp at e; omega))
        clear hP hrd3 hg3
        by_cases hz : z = 0
        · subst hz
          have HRDX := HRD3
          have HGX := HG3
          cases hwi : (want.toList == [105])
          · clear HEO
            go_wp2_with fail
            refine (HEO2.out _).mono ?_
            rintro e w6 ⟨rfl, hb6⟩
            have hrd6 := HRDX.out.grown (fun k hk => hb6.block k hk)
            have hg6 := grownBy_trans HGX.out (grownBy_below hb6)
            cases hx : exprOfT want.data.toList with
            | none =>
              go_wp2
              go_ret
              exact ⟨_, _, rfl, by decide, hrd6, by omega, hg6⟩
            | some x =>
              have hxs := exprOf_size hx
              clear hx
              go_wp2
              go_ret
              exact ⟨_, _, rfl, hxs, hrd6, by omega, hg6⟩
          · have hrdx := HRDX.out
            have hltx := hrdx.lt
            go_wp2_with fail
            refine (of_any (fun s => s.size ≤ 5) _ rb _ w3.heap.size 8 8 (hrdx.alloc _) (by omega) (by omega) (by omega) (by omega) ?_).mono ?_
            · refine textRow_new w3 _ _ ?_
              (repeat (first | exact trivial | (refine ⟨⟨_, rfl, ?_⟩, ?_⟩; · first | assumption | decide | (simp only [ByteArray.size]; decide))))
            · rintro e w6 ⟨s2, rfl, hs2, hrd6, hg6⟩
              go_wp2
              go_ret
              exact ⟨_, _, rfl, by omega, hrd6, by omega, grownBy_trans (grownBy_alloc HGX.out _) hg6⟩
        · have hzp : 0 < z := by omega
          have hzd : decide (0 < z) = true := by simpa using hzp
          have hP := pick_any w3 rb _ m HRD3.out (by omega) (by omega) (by omega)
          go_wp2_with fail
          refine hP.mono ?_
          rintro e w4 ⟨z2, rfl, hz20, hz21, hrd4, hg4⟩
          obtain ⟨k, rfl⟩ := Int.eq_ofNat_of_zero_le hz20
          obtain ⟨b, off, x, rfl, hx, hc⟩ := (HST3.out.grown hg4 (fun a ha e => by have := (HR.out.addr a ha).1; simp at e; omega)).at (show k < m by omega)
          have hx3 := HS3.out x (List.mem_of_getElem? hx)
          have HG4 := Lib.hid (grownBy_trans HG3.out hg4)
          have HRD4 := Lib.hid hrd4
          clear hP hrd4 hg4 hx
          go_wp2
          go_ret
          exact ⟨_, _, rfl, by omega, HRD4.out, by omega, HG4.out⟩
end Go.Proofs.Ytoihkjnfklogpaa
