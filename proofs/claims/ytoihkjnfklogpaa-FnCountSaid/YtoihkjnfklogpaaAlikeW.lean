/- Alike expressions: of the program. -/
import Derived.Test.YtoihkjnfklogpaaFreeI
import Derived.Test.YtoihkjnfklogpaaSameI
import Derived.Test.YtoihkjnfklogpaaQ4
import Derived.BigQuiet
namespace Go.Proofs.Ytoihkjnfklogpaa
open Go.RowKit

/-- A call has left what was there as it was. -/
def Stp (W W' : World) : Prop := Below W.heap.size W W'
theorem Stp.below {N : Nat} {w W W' : World} (h : Stp W W') (hb : Below N w W) (hN : N ≤ W.heap.size) : Below N w W' := hb.trans (Below.mono h hN)
theorem Stp.cell {W W' : World} {g i : Nat} {v : Value} (h : Stp W W') (hc : W.cell? ⟨g, i, none⟩ = some v) : W'.cell? ⟨g, i, none⟩ = some v := (Below.cell h (lt_of_cell hc)).trans hc
theorem cell_alloc {W : World} {o : Obj} {g i : Nat} {v : Value} (hc : W.cell? ⟨g, i, none⟩ = some v) : (W.alloc o).cell? ⟨g, i, none⟩ = some v :=
  (((Below.refl W.heap.size W).alloc (Nat.le_refl _) o).cell (lt_of_cell hc)).trans hc
theorem cell_drew {W : World} {g i : Nat} {v : Value} (hc : W.cell? ⟨g, i, none⟩ = some v) : W.drew.cell? ⟨g, i, none⟩ = some v := hc
theorem Stp.strs {W W' : World} {o : Option Addr} {n : Nat} {l : List ByteArray} (h : Stp W W') (hs : Strs W o n l) : Strs W' o n l := hs.keep h
theorem strs_alloc {W : World} {ob : Obj} {o : Option Addr} {n : Nat} {l : List ByteArray} (hs : Strs W o n l) : Strs (W.alloc ob) o n l := hs.keep ((Below.refl W.heap.size W).alloc (Nat.le_refl _) ob)
theorem strs_drew {W : World} {o : Option Addr} {n : Nat} {l : List ByteArray} (hs : Strs W o n l) : Strs W.drew o n l := hs

theorem rowR_stp {f : FuncId} {args : Array Value} {W : World} {l : List ByteArray} (h : Calls Try.prog f args W (RowR l W)) : Calls Try.prog f args W fun e w' => ∃ o c, e = .returned (.slice o l.length c) ∧ Strs w' o l.length l ∧ Stp W w' :=
  h.mono fun e w' ⟨v, he, hrow, hb⟩ => by
    obtain ⟨vo, vc, rfl, hst⟩ := hrow.forms
    exact ⟨vo, vc, he, hst, hb⟩
theorem stp_below {N : Nat} {w W W' : World} (hN : w.heap.size = N) (hb : Below N w W) (h : Stp W W') : Below N w W' := hb.trans (Below.mono h (by rw [← hN]; exact hN ▸ hb.size))

theorem isLast_at {l : List ByteArray} {s : ByteArray} {k : Nat} (h : l[k]? = some s) (h2 : ∀ j : Nat, k + 1 ≤ j → l[j]? ≠ some s) : lastZ l s = (k : Int) :=
  (lastZ_is l s).uniq (.inr ⟨k, rfl, h, fun j hj => h2 j hj⟩)
theorem isLast_no {l : List ByteArray} {s : ByteArray} (h2 : ∀ j : Nat, 0 ≤ j → l[j]? ≠ some s) : lastZ l s = -1 :=
  (lastZ_is l s).uniq (.inl ⟨rfl, fun j => h2 j (Nat.zero_le _)⟩)

set_option maxRecDepth 100000 in
set_option maxHeartbeats 800000 in
theorem lastIndex_any (l : List ByteArray) (s : ByteArray) (o : Option Addr) (n c : Nat) (w : World) (h : Strs w o n l) (hn : n ≤ 1000000000) :
    Calls Try.prog 62 #[.slice o n c, .string s] w fun e w' => e = .returned (.int .i64 (lastZ l s)) ∧ w = w' := by
  have H := Lib.hid h
  have HL := Lib.hid h.1
  clear h
  go_enter Try.func62, Try.ntmps62
  go_wp2
  go_loop [5] (fun i => ∃ k : Nat, k ≤ n ∧ i = .int .i64 ((k : Int) - 1) ∧ Hid (∀ j : Nat, k ≤ j → l[j]? ≠ some s)) (fun i => (intOf i + 1).toNat)
  case atStart => exact ⟨n, Nat.le_refl _, by go_num, fun j hj => by rw [List.getElem?_eq_none (by rw [← HL.out]; exact hj)]; simp⟩
  case round =>
    obtain ⟨k, hk, rfl, HN⟩ := hrel
    by_cases hz : k = 0
    · subst hz
      have HF := Lib.hid (isLast_no HN.out)
      go_wp2
      go_ret
      exact ⟨congrArg (fun x => Ending.returned (.int .i64 x)) HF.out.symm, rfl⟩
    · obtain ⟨m, rfl⟩ : ∃ m, k = m + 1 := ⟨k - 1, by omega⟩
      obtain ⟨b, off, x, rfl, hx, hc⟩ := H.out.at (show m < n by omega)
      have HX := Lib.hid hx
      have hm0 : (0 : Int) ≤ (m : Int) := by omega
      have hm1 : (m : Int) < (n : Int) := by omega
      have hm2 : ((m + 1 : Nat) : Int) - 1 = (m : Int) := by omega
      rw [hm2]
      clear hx hm2
      by_cases hs : x.toList = s.toList
      · have hb : (x.toList == s.toList) = true := by simpa using hs
        have hxs : x = s := by
          have h2 : (x.toList == s.toList) = true := by simpa using hs
          simpa [toList_inj] using h2
        have HF := Lib.hid (isLast_at (k := m) (by rw [HX.out, hxs]) HN.out)
        clear hs hxs
        go_wp2
        go_ret
        exact ⟨congrArg (fun x => Ending.returned (.int .i64 x)) HF.out.symm, rfl⟩
      · have hb : (x.toList == s.toList) = false := by simpa using hs
        have HN2 : Hid (∀ j : Nat, m ≤ j → l[j]? ≠ some s) := fun j hj => by
          by_cases e : j = m
          · subst e
            rw [HX.out]
            intro e
            apply hs
            rw [Option.some.inj e]
          · exact HN.out j (by omega)
        clear hs
        go_wp2
        go_round
        case rel => exact ⟨m, by omega, by go_num, HN2⟩
        case measure => simp [intOf]

theorem eqT_dec {a b : ByteArray} : (a.toList == b.toList) = decide (a = b) := toList_inj a b

set_option maxRecDepth 100000 in
set_option maxHeartbeats 12800000 in
theorem alike_any (n : Nat) : ∀ (f g : Tree) (A : Nat → Prop) (v v' : Value) (a b : List ByteArray) (oa ob : Option Addr) (na nb ca cb : Nat) (w : World), f.sz ≤ n → Rep w A f v → Rep w A g v' → Strs w oa na a → Strs w ob nb b →
      a.length + 2 * f.sz ≤ 100000 → b.length + 2 * g.sz ≤ 100000 → f.sz ≤ 24000 → g.sz ≤ 24000 → f.text.length ≤ 12000 → g.text.length ≤ 12000 → f.good = true → g.good = true → f.isExpr = true → g.isExpr = true →
    Calls Try.prog 37 #[v, v', .slice oa na ca, .slice ob nb cb] w fun e w' => e = .returned (.bool (f.alike g a b)) ∧ Below w.heap.size w w' := by
  induction n with
  | zero => intro f g A v v' a b oa ob na nb ca cb w h; cases f; simp [Tree.sz] at h
  | succ n ih =>
    intro f g A v v' a b oa ob na nb ca cb w hn hr hr' ha hb la lb zf zg tf tg gf gg ef eg
    obtain ⟨s, ps⟩ := f
    obtain ⟨s', qs⟩ := g
    have hr0 := hr
    have hr0' := hr'
    simp only [Rep] at hr hr'
    obtain ⟨o, ln, c, rfl, hs, hcap⟩ := hr
    obtain rfl := hs.len
    obtain ⟨o', ln', c', rfl, hs', hcap'⟩ := hr'
    obtain rfl := hs'.len
    have hna2 : na ≤ 100000 ∧ nb ≤ 100000 := by have := ha.1; have := hb.1; omega
    have hna : na ≤ 1000000000 := by have := ha.1; omega
    have hnb : nb ≤ 1000000000 := by have := hb.1; omega
    have HA : Hid (∀ W, Below w.heap.size w W → Strs W oa na a) := fun W h => ha.keep h
    have HB : Hid (∀ W, Below w.heap.size w W → Strs W ob nb b) := fun W h => hb.keep h
    have HLA : Hid (∀ W, Below w.heap.size w W → Calls Try.prog 62 #[.slice oa na ca, .string s] W fun e w' => e = .returned (.int .i64 (lastZ a s)) ∧ W = w') := fun W h => lastIndex_any a s oa na ca W (HA.out W h) hna
    have HLB : Hid (∀ W, Below w.heap.size w W → Calls Try.prog 62 #[.slice ob nb cb, .string s'] W fun e w' => e = .returned (.int .i64 (lastZ b s')) ∧ W = w') := fun W h => lastIndex_any b s' ob nb cb W (HB.out W h) hnb
    -- the two boxes
    have B0 : Below (w.heap.size + 1 + 1) ((w.alloc (.cells #[.string s, .slice o ps.length c] 46)).alloc (.cells #[.string s', .slice o' qs.length c'] 46)) ((w.alloc (.cells #[.string s, .slice o ps.length c] 46)).alloc (.cells #[.string s', .slice o' qs.length c'] 46)) := Below.refl _ _
    have hB0 : Below w.heap.size w ((w.alloc (.cells #[.string s, .slice o ps.length c] 46)).alloc (.cells #[.string s', .slice o' qs.length c'] 46)) := ((Below.refl _ _).alloc (Nat.le_refl _) _).alloc (by simp) _
    obtain ⟨u0, u1⟩ := two_new w (.string s) (.slice o ps.length c) 46
    obtain ⟨u2, u3⟩ := two_new (w.alloc (.cells #[.string s, .slice o ps.length c] 46)) (.string s') (.slice o' qs.length c') 46
    have hk0 : Below (w.alloc (.cells #[.string s, .slice o ps.length c] 46)).heap.size (w.alloc (.cells #[.string s, .slice o ps.length c] 46)) ((w.alloc (.cells #[.string s, .slice o ps.length c] 46)).alloc (.cells #[.string s', .slice o' qs.length c'] 46)) := (Below.refl _ _).alloc (Nat.le_refl _) _
    have v0 := (hk0.cell (lt_of_cell u0)).trans u0
    have v1 := (hk0.cell (lt_of_cell u1)).trans u1
    simp only [World.size_alloc] at u2 u3
    -- the four cells, in whatever world comes later
    have HC : Hid (∀ W, Below (w.heap.size + 1 + 1) ((w.alloc (.cells #[.string s, .slice o ps.length c] 46)).alloc (.cells #[.string s', .slice o' qs.length c'] 46)) W →
        W.cell? ⟨w.heap.size, 0, none⟩ = some (.string s) ∧ W.cell? ⟨w.heap.size, 1, none⟩ = some (.slice o ps.length c) ∧ W.cell? ⟨w.heap.size + 1, 0, none⟩ = some (.string s') ∧ W.cell? ⟨w.heap.size + 1, 1, none⟩ = some (.slice o' qs.length c') ∧ Below w.heap.size w W ∧ w.heap.size + 1 + 1 ≤ W.heap.size) := fun W h =>
      ⟨(h.cell (p := ⟨w.heap.size, 0, none⟩) (by simp <;> omega)).trans v0, (h.cell (p := ⟨w.heap.size, 1, none⟩) (by simp <;> omega)).trans v1, (h.cell (p := ⟨w.heap.size + 1, 0, none⟩) (by simp)).trans u2, (h.cell (p := ⟨w.heap.size + 1, 1, none⟩) (by simp)).trans u3, hB0.trans (h.mono (by omega)), by have := h.size; simpa using this⟩
    have HN : Hid (∀ W W', Below (w.heap.size + 1 + 1) ((w.alloc (.cells #[.string s, .slice o ps.length c] 46)).alloc (.cells #[.string s', .slice o' qs.length c'] 46)) W → Below W.heap.size W W' → Below (w.heap.size + 1 + 1) ((w.alloc (.cells #[.string s, .slice o ps.length c] 46)).alloc (.cells #[.string s', .slice o' qs.length c'] 46)) W') :=
      fun W W' h h' => h.trans (h'.mono (by have := h.size; simpa using this))
    obtain ⟨x0, x1, x2, x3, hBB, hsz0⟩ := HC.out _ B0
    clear u0 u1 u2 u3 hk0 v0 v1 hB0
    cases ps with
    | nil =>
      have HR : Hid ((Tree.node s []).alike (.node s' qs) a b = (qs.isEmpty && (decide (lastZ a s = lastZ b s') && (decide (0 ≤ lastZ a s) || decide (s = s'))))) := by
        show _ = _
        rw [alike_leaf a b (.inl rfl)]
        rfl
      clear ih hr0 hr0' hs hs' x0 x1 x2 x3 hBB ha hb
      generalize lastZ a s = z at *
      generalize lastZ b s' = y at *
      go_enter Try.func37, Try.ntmps37
      go_wp2_with fail
      refine (isAtom_any _ _ _ _ _).mono ?_
      rintro e w1 ⟨rfl, hb1⟩
      have B1 := HN.out _ _ B0 hb1
      obtain ⟨x0, x1, x2, x3, hB1, hsz1⟩ := HC.out _ B1
      clear hb1
      go_wp2_with fail
      have HQA : Hid (∀ k, Calls Try.prog 62 #[.slice oa na ca, .string s] (w1.drewN k) fun e w' => e = .returned (.int .i64 z) ∧ w' = w1.drewN k) := fun k => (HLA.out _ (below_drewN hB1 _)).mono fun _ _ h => ⟨h.1, h.2.symm⟩
      have HQB : Hid (∀ k, Calls Try.prog 62 #[.slice ob nb cb, .string s'] (w1.drewN k) fun e w' => e = .returned (.int .i64 y) ∧ w' = w1.drewN k) := fun k => (HLB.out _ (below_drewN hB1 _)).mono fun _ _ h => ⟨h.1, h.2.symm⟩
      go_quiet (with_reducible first | exact Calls.quiet_of_same (HQA.out _) | exact Calls.quiet_of_same (HQB.out _))
      have B2 := below_drewN B1 nq
      obtain ⟨x0, x1, x2, x3, hB2, hsz2⟩ := HC.out _ B2
      generalize w1.drewN nq = w2 at *
      clear HQA HQB HLA HLB HA HB hB1 hsz1 B1
      by_cases hq : qs = []
      · have hql : qs.length = 0 := by rw [hq]; rfl
        by_cases hzy : z = y
        · subst hzy
          have hzy1 : (z == z) = true := by simp
          by_cases hz0 : 0 ≤ z
          · have HF : Hid ((Tree.node s []).alike (.node s' qs) a b = true) := by show _ = _; rw [HR.out, hq]; simp [hz0]
            have hz1 : decide (0 ≤ z) = true := decide_eq_true hz0
            clear hq
            go_wp2_with fail
            refine (isAtom_any _ _ _ _ _).mono ?_
            rintro e w3 ⟨rfl, hb3⟩
            have B3 := HN.out _ _ B2 hb3
            obtain ⟨x0, x1, x2, x3, hB3, hsz3⟩ := HC.out _ B3
            clear hb3
            go_wp2_with fail
            refine (isAtom_any _ _ _ _ _).mono ?_
            rintro e w4 ⟨rfl, hb4⟩
            have B4 := HN.out _ _ B3 hb4
            obtain ⟨x0, x1, x2, x3, hB4, hsz4⟩ := HC.out _ B4
            clear hb4
            go_wp2
            go_ret
            exact ⟨ret_bool HF.out.symm, hB4⟩
          · have hz1 : decide (0 ≤ z) = false := decide_eq_false hz0
            by_cases hss : s = s'
            · have HF : Hid ((Tree.node s []).alike (.node s' qs) a b = true) := by show _ = _; rw [HR.out, hq]; simp [hss]
              have hs1 : (s.toList == s'.toList) = true := by rw [hss]; simp
              clear hq hss
              go_wp2_with fail
              refine (isAtom_any _ _ _ _ _).mono ?_
              rintro e w3 ⟨rfl, hb3⟩
              have B3 := HN.out _ _ B2 hb3
              obtain ⟨x0, x1, x2, x3, hB3, hsz3⟩ := HC.out _ B3
              clear hb3
              go_wp2_with fail
              refine (isAtom_any _ _ _ _ _).mono ?_
              rintro e w4 ⟨rfl, hb4⟩
              have B4 := HN.out _ _ B3 hb4
              obtain ⟨x0, x1, x2, x3, hB4, hsz4⟩ := HC.out _ B4
              clear hb4
              go_wp2
              go_ret
              exact ⟨ret_bool HF.out.symm, hB4⟩
            · have HF : Hid ((Tree.node s []).alike (.node s' qs) a b = false) := by show _ = _; rw [HR.out, hq]; simp [hss, hz0]
              have hs1 : (s.toList == s'.toList) = false := by rw [toList_inj]; simpa using hss
              clear hq hss
              go_wp2_with fail
              refine (isAtom_any _ _ _ _ _).mono ?_
              rintro e w3 ⟨rfl, hb3⟩
              have B3 := HN.out _ _ B2 hb3
              obtain ⟨x0, x1, x2, x3, hB3, hsz3⟩ := HC.out _ B3
              clear hb3
              go_wp2_with fail
              refine (isAtom_any _ _ _ _ _).mono ?_
              rintro e w4 ⟨rfl, hb4⟩
              have B4 := HN.out _ _ B3 hb4
              obtain ⟨x0, x1, x2, x3, hB4, hsz4⟩ := HC.out _ B4
              clear hb4
              go_wp2
              go_ret
              exact ⟨ret_bool HF.out.symm, hB4⟩
        · have hzy1 : (z == y) = false := by simpa using hzy
          have HF : Hid ((Tree.node s []).alike (.node s' qs) a b = false) := by show _ = _; rw [HR.out, hq]; simp [hzy]
          clear hq
          go_wp2_with fail
          refine (isAtom_any _ _ _ _ _).mono ?_
          rintro e w3 ⟨rfl, hb3⟩
          have B3 := HN.out _ _ B2 hb3
          obtain ⟨x0, x1, x2, x3, hB3, hsz3⟩ := HC.out _ B3
          clear hb3
          go_wp2_with fail
          refine (isAtom_any _ _ _ _ _).mono ?_
          rintro e w4 ⟨rfl, hb4⟩
          have B4 := HN.out _ _ B3 hb4
          obtain ⟨x0, x1, x2, x3, hB4, hsz4⟩ := HC.out _ B4
          clear hb4
          go_wp2
          go_ret
          exact ⟨ret_bool HF.out.symm, hB4⟩
      · have hql : ((qs.length : Int) == 0) = false := by
          have := List.length_pos_iff.2 hq
          simp only [beq_eq_false_iff_ne, ne_eq]; omega
        have HF : Hid ((Tree.node s []).alike (.node s' qs) a b = false) := by
          show _ = _
          rw [HR.out]
          cases qs with
          | nil => exact absurd rfl hq
          | cons q qs => rfl
        clear hq
        go_wp2_with fail
        refine (isAtom_any _ _ _ _ _).mono ?_
        rintro e w3 ⟨rfl, hb3⟩
        have B3 := HN.out _ _ B2 hb3
        obtain ⟨x0, x1, x2, x3, hB3, hsz3⟩ := HC.out _ B3
        clear hb3
        go_wp2_with fail
        refine (isAtom_any _ _ _ _ _).mono ?_
        rintro e w4 ⟨rfl, hb4⟩
        have B4 := HN.out _ _ B3 hb4
        obtain ⟨x0, x1, x2, x3, hB4, hsz4⟩ := HC.out _ B4
        clear hb4
        go_wp2
        go_ret
        exact ⟨ret_bool HF.out.symm, hB4⟩
    | cons p ps =>
      have hlp : (p :: ps).length = ps.length + 1 := rfl
      obtain ⟨b1, f1, rfl, hA1, hc1⟩ := hs.uncons
      have HHF := Lib.hid (fun W (h : Below w.heap.size w W) => head_any (.node s (p :: ps)) A _ W (Rep.keep (Keeps.below h) _ _ hr0) (by have := Tree.length_le_szL (p :: ps); simp only [Tree.sz, Tree.parts] at *; omega))
      have HRF : Hid (∀ W, Below w.heap.size w W → Rep W A (.node s (p :: ps)) (.agg #[.string s, .slice (some ⟨b1, f1, none⟩) (p :: ps).length c])) := fun W h => Rep.keep (Keeps.below h) _ _ hr0
      have hll : (p :: ps).length ≤ 24000 := by have := Tree.length_le_szL (p :: ps); simp only [Tree.sz] at zf; omega
      cases qs with
      | nil =>
        have HF : Hid ((Tree.node s (p :: ps)).alike (.node s' []) a b = false) := by
          show _ = _
          rw [alike_leaf a b (.inr rfl)]; rfl
        have hl1 : (((p :: ps).length : Int) == 0) = false := by simp only [List.length_cons, beq_eq_false_iff_ne, ne_eq]; omega
        clear ih hr0 hr0' hs hs' x0 x1 x2 x3 hBB ha hb HHF HRF hlp
        generalize lastZ a s = z at *
        generalize lastZ b s' = y at *
        generalize (p :: ps).length = lp at *
        go_enter Try.func37, Try.ntmps37
        go_wp2_with fail
        refine (isAtom_any _ _ _ _ _).mono ?_
        rintro e w1 ⟨rfl, hb1⟩
        have B1 := HN.out _ _ B0 hb1
        obtain ⟨x0, x1, x2, x3, hB1, hsz1⟩ := HC.out _ B1
        clear hb1
        go_wp2_with fail
        refine (isAtom_any _ _ _ _ _).mono ?_
        rintro e w2 ⟨rfl, hb2⟩
        have B2 := HN.out _ _ B1 hb2
        obtain ⟨x0, x1, x2, x3, hB2, hsz2⟩ := HC.out _ B2
        clear hb2
        have HQA : Hid (∀ k, Calls Try.prog 62 #[.slice oa na ca, .string s] (w2.drewN k) fun e w' => e = .returned (.int .i64 z) ∧ w' = w2.drewN k) := fun k => (HLA.out _ (below_drewN hB2 _)).mono fun _ _ h => ⟨h.1, h.2.symm⟩
        have HQB : Hid (∀ k, Calls Try.prog 62 #[.slice ob nb cb, .string s'] (w2.drewN k) fun e w' => e = .returned (.int .i64 y) ∧ w' = w2.drewN k) := fun k => (HLB.out _ (below_drewN hB2 _)).mono fun _ _ h => ⟨h.1, h.2.symm⟩
        go_wp2_with fail
        go_quiet (with_reducible first | exact Calls.quiet_of_same (HQA.out _) | exact Calls.quiet_of_same (HQB.out _))
        have B3 := below_drewN B2 nq
        obtain ⟨x0, x1, x2, x3, hB3, hsz3⟩ := HC.out _ B3
        generalize w2.drewN nq = w3 at *
        go_wp2_with fail
        refine (isAtom_any _ _ _ _ _).mono ?_
        rintro e w4 ⟨rfl, hb4⟩
        have B4 := HN.out _ _ B3 hb4
        obtain ⟨x0, x1, x2, x3, hB4, hsz4⟩ := HC.out _ B4
        go_wp2
        go_ret
        exact ⟨ret_bool HF.out.symm, hB4⟩
      | cons q qs =>
        obtain ⟨b2, f2, rfl, hA2, hc2⟩ := hs'.uncons
        have HHG := Lib.hid (fun W (h : Below w.heap.size w W) => head_any (.node s' (q :: qs)) A _ W (Rep.keep (Keeps.below h) _ _ hr0') (by have := Tree.length_le_szL (q :: qs); simp only [Tree.sz, Tree.parts] at *; omega))
        have HRG : Hid (∀ W, Below w.heap.size w W → Rep W A (.node s' (q :: qs)) (.agg #[.string s', .slice (some ⟨b2, f2, none⟩) (q :: qs).length c'])) := fun W h => Rep.keep (Keeps.below h) _ _ hr0'
        have hlq : (q :: qs).length = qs.length + 1 := rfl
        have hll' : (q :: qs).length ≤ 24000 := by have := Tree.length_le_szL (q :: qs); simp only [Tree.sz] at zg; omega
        have HR : Hid ((Tree.node s (p :: ps)).alike (.node s' (q :: qs)) a b = (decide (p.atom = q.atom) && decide ((p :: ps).length = (q :: qs).length) && (!decide (p.atom.data.toList = [102, 117, 110]) || (nth (p :: ps) 3).eqB (nth (q :: qs) 3) && (nth (p :: ps) 4).eqB (nth (q :: qs) 4)) &&
            (kidsOf p.atom.data.toList (p :: ps).length).all fun i => Tree.alike (nth (p :: ps) i) (nth (q :: qs) i) (a ++ (Tree.node s (p :: ps)).bindsAt i) (b ++ (Tree.node s' (q :: qs)).bindsAt i))) := alike_node a b (by simp [Tree.parts])
        have HEF : Hid ((Tree.node s (p :: ps)).isExpr = true) := ef
        have HEG : Hid ((Tree.node s' (q :: qs)).isExpr = true) := eg
        have HZ := Lib.hid (And.intro hn (And.intro la (And.intro lb (And.intro zf (And.intro zg (And.intro tf tg))))))
        have HGG := Lib.hid (And.intro gf gg)
        have HIH := Lib.hid ih
        have hl1 : (((p :: ps).length : Int) == 0) = false := by simp only [List.length_cons, beq_eq_false_iff_ne, ne_eq]; omega
        have hl2 : (((q :: qs).length : Int) == 0) = false := by simp only [List.length_cons, beq_eq_false_iff_ne, ne_eq]; omega
        have HHF' : Hid (∀ W, Below w.heap.size w W → Calls Try.prog 32 #[.agg #[.string s, .slice (some ⟨b1, f1, none⟩) (p :: ps).length c]] W fun e w' => e = .returned (.string p.atom) ∧ Stp W w') := HHF.out
        have HHG' : Hid (∀ W, Below w.heap.size w W → Calls Try.prog 32 #[.agg #[.string s', .slice (some ⟨b2, f2, none⟩) (q :: qs).length c']] W fun e w' => e = .returned (.string q.atom) ∧ Stp W w') := HHG.out
        have HC1 : Hid (∀ W, Below w.heap.size w W → RepC W A (p :: ps) b1 f1) := fun W h => RepC.keep (Keeps.below h) hA1 _ _ hc1
        have HC2 : Hid (∀ W, Below w.heap.size w W → RepC W A (q :: qs) b2 f2) := fun W h => RepC.keep (Keeps.below h) hA2 _ _ hc2
        have HKI : Hid (∀ W, Below w.heap.size w W → Calls Try.prog 64 #[.agg #[.string s, .slice (some ⟨b1, f1, none⟩) (p :: ps).length c]] W (KidsR (kidsOf p.atom.data.toList (p :: ps).length) W)) := fun W h => kids_any (.node s (p :: ps)) A _ W (HRF.out W h) (by simp only [Tree.parts]; omega)
        clear ih hr0 hr0' hs hs' hc1 hc2 x0 x1 x2 x3 hBB ha hb HHF HHG HLA HLB hn la lb zf zg tf tg gf gg ef eg
        have HLP := Lib.hid hlp
        have HLQ := Lib.hid hlq
        clear hlp hlq
        generalize (p :: ps).length = lp at *
        generalize (q :: qs).length = lq at *
        go_enter Try.func37, Try.ntmps37
        go_wp2_with fail
        refine (isAtom_any _ _ _ _ _).mono ?_
        rintro e w1 ⟨rfl, hb1⟩
        have B1 := HN.out _ _ B0 hb1
        obtain ⟨x0, x1, x2, x3, hB1, hsz1⟩ := HC.out _ B1
        clear hb1
        go_wp2_with fail
        refine (isAtom_any _ _ _ _ _).mono ?_
        rintro e w2 ⟨rfl, hb2⟩
        have B2 := HN.out _ _ B1 hb2
        obtain ⟨x0, x1, x2, x3, hB2, hsz2⟩ := HC.out _ B2
        clear hb2
        have HSS : Hid (∀ W, Below w2.heap.size w2 W → W.cell? ⟨w.heap.size, 0, none⟩ = some (.string s) ∧ W.cell? ⟨w.heap.size, 1, none⟩ = some (.slice (some ⟨b1, f1, none⟩) lp c) ∧ W.cell? ⟨w.heap.size + 1, 0, none⟩ = some (.string s') ∧ W.cell? ⟨w.heap.size + 1, 1, none⟩ = some (.slice (some ⟨b2, f2, none⟩) lq c')) :=
          fun W h => ⟨(h.cell (lt_of_cell x0)).trans x0, (h.cell (lt_of_cell x1)).trans x1, (h.cell (lt_of_cell x2)).trans x2, (h.cell (lt_of_cell x3)).trans x3⟩
        have HBW : Hid (∀ W, Below w2.heap.size w2 W → Below w.heap.size w W) := fun W h => hB2.trans (h.mono hB2.size)
        have hw0 : Below w2.heap.size w2 w2.drew := (Below.refl _ _).drew
        have HST : Hid (∀ W W', Below w2.heap.size w2 W → Stp W W' → Below w2.heap.size w2 W') := fun W W' h h' => h'.below h h.size
        by_cases hpq : p.atom = q.atom
        · have hb1 : (p.atom.toList == q.atom.toList) = true := by rw [hpq]; simp
          have hb2 : (p.atom.toList != q.atom.toList) = false := by rw [hpq]; simp
          by_cases hll2 : lp = lq
          · skip
            have HR2 : Hid ((Tree.node s (p :: ps)).alike (.node s' (q :: qs)) a b = ((!decide (p.atom.data.toList = [102, 117, 110]) || (nth (p :: ps) 3).eqB (nth (q :: qs) 3) && (nth (p :: ps) 4).eqB (nth (q :: qs) 4)) && (kidsOf p.atom.data.toList lp).all fun i => Tree.alike (nth (p :: ps) i) (nth (q :: qs) i) (a ++ (Tree.node s (p :: ps)).bindsAt i) (b ++ (Tree.node s' (q :: qs)).bindsAt i))) := by
              show _ = _
              rw [HR.out, decide_eq_true hpq, decide_eq_true hll2, Bool.true_and, Bool.true_and]
            have hb3 : ((lp : Int) != (lq : Int)) = false := by simp; omega
            have hb4 : ((lp : Int) == (lq : Int)) = true := by simp; omega
            have hb5 : (lp : Int) = (lq : Int) := by omega
            -- the kinds
            have hkz : kidAt p.atom.data.toList lp ≠ 0 := by
              have := (isExpr_parts HEF.out).1
              have h1 := HLP.out
              rw [h1]; exact this
            have HKN : Hid (kidsOf p.atom.data.toList lp ≠ []) := fun h => by
              have h1 := kidsOf_length p.atom.data.toList lp hkz
              have h2 := kidAt_le p.atom.data.toList lp
              rw [h] at h1
              simp at h1
              obtain ⟨k, hk, -, -, hkn, -⟩ := expr_cases HEF.out
              have h3 := HLP.out
              rw [← h3] at hk hkn
              omega
            have hkl : (kidsOf p.atom.data.toList lp).length ≤ 24000 := by have := kidsOf_length p.atom.data.toList lp hkz; omega
            have HKG : Hid (∀ (m i : Nat), (kidsOf p.atom.data.toList lp)[m]? = some i → kidAt p.atom.data.toList lp ≤ i ∧ i < lp) := fun m i h => by
              have h1 := kidsOf_length p.atom.data.toList lp hkz
              have h2 := (List.getElem?_eq_some_iff.1 h).1
              rw [kidsOf_get p.atom.data.toList lp hkz m (by omega)] at h
              have := Option.some.inj h
              omega
            have HIA : Hid (∀ (i : Nat) (fi gi : Tree), kidAt p.atom.data.toList lp ≤ i → (p :: ps)[i]? = some fi → (q :: qs)[i]? = some gi → ∀ (v v' : Value) (a' b' : List ByteArray) (oa ob : Option Addr) (na nb ca cb : Nat) (W : World), Rep W A fi v → Rep W A gi v' → Strs W oa na a' → Strs W ob nb b' →
                a'.length ≤ a.length + 2 → b'.length ≤ b.length + 2 → Calls Try.prog 37 #[v, v', .slice oa na ca, .slice ob nb cb] W fun e w' => e = .returned (.bool (fi.alike gi a' b')) ∧ Stp W w') := fun i fi gi hik hfi hgi v v' a' b' oa ob na nb ca cb W h1 h2 h3 h4 h5 h6 => by
              obtain ⟨zn, za, zb, zf, zg, tf, tg⟩ := HZ.out
              obtain ⟨gf, gg⟩ := HGG.out
              have s1 := Tree.part_sz (t := .node s (p :: ps)) (List.mem_of_getElem? hfi)
              have s2 := Tree.part_sz (t := .node s' (q :: qs)) (List.mem_of_getElem? hgi)
              have t1 := text_part_le (a := s) (List.mem_of_getElem? hfi)
              have t2 := text_part_le (a := s') (List.mem_of_getElem? hgi)
              obtain ⟨k, hk, -, -, -, -, hkx⟩ := expr_cases HEF.out
              obtain ⟨k2, hk2, -, -, -, -, hkx2⟩ := expr_cases HEG.out
              have l1 := HLP.out
              have l2 := HLQ.out
              have e2 : k2 = k := by rw [← hk, ← hk2, hpq, ← l1, ← l2, hll2]
              have e1 : k = kidAt p.atom.data.toList lp := by rw [l1]; exact hk.symm
              exact HIH.out fi gi A v v' a' b' oa ob na nb ca cb W (by omega) h1 h2 h3 h4 (by omega) (by omega) (by omega) (by omega) (by omega) (by omega) (Tree.good_part _ _ _ hfi (Tree.good_parts gf).1) (Tree.good_part _ _ _ hgi (Tree.good_parts gg).1) (hkx i fi (by omega) hfi) (hkx2 i gi (by omega) hgi)
            have HBF : Hid (∀ (i : Nat) (W : World), kidAt p.atom.data.toList lp ≤ i → i < lp → Below w.heap.size w W → Calls Try.prog 66 #[.agg #[.string s, .slice (some ⟨b1, f1, none⟩) lp c], .int .i64 i] W fun e w' => ∃ o c, e = .returned (.slice o ((Tree.node s (p :: ps)).bindsAt i).length c) ∧ Strs w' o ((Tree.node s (p :: ps)).bindsAt i).length ((Tree.node s (p :: ps)).bindsAt i) ∧ Stp W w') := fun i W h1 h2 h3 => by
              have l1 := HLP.out
              exact rowR_stp (bound_any s p ps i A _ W (HRF.out W h3) HEF.out (by rw [← l1]; exact h1) (by omega) (by omega))
            have HBG : Hid (∀ (i : Nat) (W : World), kidAt p.atom.data.toList lp ≤ i → i < lp → Below w.heap.size w W → Calls Try.prog 66 #[.agg #[.string s', .slice (some ⟨b2, f2, none⟩) lq c'], .int .i64 i] W fun e w' => ∃ o c, e = .returned (.slice o ((Tree.node s' (q :: qs)).bindsAt i).length c) ∧ Strs w' o ((Tree.node s' (q :: qs)).bindsAt i).length ((Tree.node s' (q :: qs)).bindsAt i) ∧ Stp W w') := fun i W h1 h2 h3 => by
              have l2 := HLQ.out
              exact rowR_stp (bound_any s' q qs i A _ W (HRG.out W h3) HEG.out (by rw [← l2, ← hpq, ← hll2]; exact h1) (by omega) (by omega))
            have HLF : Hid (∀ i, ((Tree.node s (p :: ps)).bindsAt i).length ≤ 2) := fun i => bindsAt_len _ i
            have HLG : Hid (∀ i, ((Tree.node s' (q :: qs)).bindsAt i).length ≤ 2) := fun i => bindsAt_len _ i
            by_cases hfun : p.atom.data.toList = [102, 117, 110]
            · have hb6 : (p.atom.toList == [102, 117, 110]) = true := by rw [Lib.toList_data]; simpa using hfun
              obtain ⟨u, v, u', v', h3, h4, h3', h4', h6⟩ : ∃ u v u' v', (p :: ps)[3]? = some u ∧ (p :: ps)[4]? = some v ∧ (q :: qs)[3]? = some u' ∧ (q :: qs)[4]? = some v' ∧ lp = 6 := by
                have e1 := (isExpr_parts HEF.out).1
                have hl : ps.length + 1 = 6 := by
                  rcases kidAt_cases p.atom.data.toList (ps.length + 1) with e | ⟨-, -, -, -, e⟩ | ⟨-, -, e⟩ | ⟨-, e, -⟩
                  · exact absurd e e1
                  · exact absurd hfun e
                  · rw [hfun] at e; simp at e
                  · exact e
                have l1 := HLP.out
                have l2 := HLQ.out
                have hq : qs.length + 1 = 6 := by omega
                exact ⟨(p :: ps)[3]'(by simp only [List.length_cons]; omega), (p :: ps)[4]'(by simp only [List.length_cons]; omega), (q :: qs)[3]'(by simp only [List.length_cons]; omega), (q :: qs)[4]'(by simp only [List.length_cons]; omega), by simp, by simp, by simp, by simp, by omega⟩
              have h30 : 3 < lp := by omega
              have h31 : (3 : Int) < (lp : Int) := by omega
              have h32 : 4 < lp := by omega
              have h33 : (4 : Int) < (lp : Int) := by omega
              have h34 : 3 < lq := by omega
              have h35 : (3 : Int) < (lq : Int) := by omega
              have h36 : 4 < lq := by omega
              have h37 : (4 : Int) < (lq : Int) := by omega
              clear h6
              obtain ⟨ou, nu, cu, ux, uy, ur⟩ := (HC1.out _ hB2).nth 3 (p := u) (k := f1 + 6) h3 rfl
              obtain ⟨ov, nv, cv, vx, vy, vr⟩ := (HC1.out _ hB2).nth 4 (p := v) (k := f1 + 8) h4 rfl
              obtain ⟨ou', nu', cu', ux', uy', ur'⟩ := (HC2.out _ hB2).nth 3 (p := u') (k := f2 + 6) h3' rfl
              obtain ⟨ov', nv', cv', vx', vy', vr'⟩ := (HC2.out _ hB2).nth 4 (p := v') (k := f2 + 8) h4' rfl
              have HSP : Hid (∀ W, Below w2.heap.size w2 W → W.cell? ⟨w.heap.size, 0, none⟩ = some (.string s) ∧ W.cell? ⟨w.heap.size, 1, none⟩ = some (.slice (some ⟨b1, f1, none⟩) lp c) ∧ W.cell? ⟨w.heap.size + 1, 0, none⟩ = some (.string s') ∧ W.cell? ⟨w.heap.size + 1, 1, none⟩ = some (.slice (some ⟨b2, f2, none⟩) lq c') ∧
                  W.cell? ⟨b1, f1 + 6, none⟩ = some (.string u.atom) ∧ W.cell? ⟨b1, f1 + 6 + 1, none⟩ = some (.slice ou nu cu) ∧ W.cell? ⟨b2, f2 + 6, none⟩ = some (.string u'.atom) ∧ W.cell? ⟨b2, f2 + 6 + 1, none⟩ = some (.slice ou' nu' cu') ∧
                  W.cell? ⟨b1, f1 + 8, none⟩ = some (.string v.atom) ∧ W.cell? ⟨b1, f1 + 8 + 1, none⟩ = some (.slice ov nv cv) ∧ W.cell? ⟨b2, f2 + 8, none⟩ = some (.string v'.atom) ∧ W.cell? ⟨b2, f2 + 8 + 1, none⟩ = some (.slice ov' nv' cv')) := fun W h => by
                obtain ⟨a1, a2, a3, a4⟩ := HSS.out W h
                exact ⟨a1, a2, a3, a4, (h.cell (lt_of_cell ux)).trans ux, (h.cell (lt_of_cell uy)).trans uy, (h.cell (lt_of_cell ux')).trans ux', (h.cell (lt_of_cell uy')).trans uy', (h.cell (lt_of_cell vx)).trans vx, (h.cell (lt_of_cell vy)).trans vy, (h.cell (lt_of_cell vx')).trans vx', (h.cell (lt_of_cell vy')).trans vy'⟩
              have hzu : u.sz ≤ 1000000000 ∧ v.sz ≤ 1000000000 := by
                obtain ⟨-, -, -, zf, -, -, -⟩ := HZ.out
                have s1 := Tree.part_sz (t := .node s (p :: ps)) (List.mem_of_getElem? h3)
                have s2 := Tree.part_sz (t := .node s (p :: ps)) (List.mem_of_getElem? h4)
                omega
              have HSU : Hid (∀ W, Below w2.heap.size w2 W → Calls Try.prog 63 #[.agg #[.string u.atom, .slice ou nu cu], .agg #[.string u'.atom, .slice ou' nu' cu']] W fun e w' => e = .returned (.bool (u.eqB u')) ∧ Stp W w') := fun W h => same_any _ u u' A A _ _ W (Nat.le_refl _) (Rep.keep (Keeps.below h) _ _ ur) (Rep.keep (Keeps.below h) _ _ ur') hzu.1
              have HSV : Hid (∀ W, Below w2.heap.size w2 W → Calls Try.prog 63 #[.agg #[.string v.atom, .slice ov nv cv], .agg #[.string v'.atom, .slice ov' nv' cv']] W fun e w' => e = .returned (.bool (v.eqB v')) ∧ Stp W w') := fun W h => same_any _ v v' A A _ _ W (Nat.le_refl _) (Rep.keep (Keeps.below h) _ _ vr) (Rep.keep (Keeps.below h) _ _ vr') hzu.2
              have HR3 : Hid ((Tree.node s (p :: ps)).alike (.node s' (q :: qs)) a b = ((u.eqB u' && v.eqB v') && (kidsOf p.atom.data.toList lp).all fun i => Tree.alike (nth (p :: ps) i) (nth (q :: qs) i) (a ++ (Tree.node s (p :: ps)).bindsAt i) (b ++ (Tree.node s' (q :: qs)).bindsAt i))) := by
                show _ = _
                rw [HR2.out, decide_eq_true hfun, nth_of h3, nth_of h4, nth_of h3', nth_of h4']; rfl
              clear ux uy vx vy ux' uy' vx' vy' ur vr ur' vr' h3 h4 h3' h4' hzu
              generalize u.eqB u' = su at *
              generalize v.eqB v' = sv at *
              generalize u.atom = U at *
              generalize v.atom = V at *
              generalize u'.atom = U' at *
              generalize v'.atom = V' at *
              cases su
              · have HF : Hid ((Tree.node s (p :: ps)).alike (.node s' (q :: qs)) a b = false) := by show _ = _; rw [HR3.out]; simp
                clear HR HR2 HR3 HEF HEG HIH HIA HBF HBG HKI HC1 HC2 HKN HKG hpq hll2 hfun hkz
                generalize p.atom = pa at *
                generalize q.atom = qa at *
                go_wp2_with fail
                refine wp_region_held_drew (S := (fun W => W.cell? ⟨w.heap.size, 0, none⟩ = some (.string s) ∧ W.cell? ⟨w.heap.size, 1, none⟩ = some (.slice (some ⟨b1, f1, none⟩) lp c) ∧ W.cell? ⟨w.heap.size + 1, 0, none⟩ = some (.string s') ∧ W.cell? ⟨w.heap.size + 1, 1, none⟩ = some (.slice (some ⟨b2, f2, none⟩) lq c'))) (by kernel_rfl) ?_ (fun hHeld => ?_)
                · (try dsimp only); exact HSS.out _ hw0
                refine wpAnyH_take (i := 0) (v := ?_) (by simp only [List.getElem?_toArray, List.getElem?_cons_zero]; rfl) (by kernel_rfl) (by kernel_rfl) (by kernel_rfl) (by exact fun _ _ _ h => h) (Or.inl ⟨by rfl, ?_⟩) (by assumption) ?_
                rotate_left
                · intro W hSW; (try dsimp only at hSW); go_simp; (try with_reducible rfl)
                (try simp only [Act.put, List.setIfInBounds_toArray, List.set_cons_zero, List.set_cons_succ])
                refine wpAnyH_take (i := 2) (v := ?_) (by simp only [List.getElem?_toArray, List.getElem?_cons_zero, List.getElem?_cons_succ]; rfl) (by kernel_rfl) (by kernel_rfl) (by kernel_rfl) (by exact fun _ _ _ h => h) (Or.inl ⟨by rfl, ?_⟩) (by assumption) ?_
                rotate_left
                · intro W hSW; (try dsimp only at hSW); go_simp; (try with_reducible rfl)
                (try simp only [Act.put, List.setIfInBounds_toArray, List.set_cons_zero, List.set_cons_succ])
                refine wpAnyH_ready (rs := [1]) (by kernel_rfl) (by simp) ?_
                refine AllReadyH.cons (by simp only [List.getElem?_toArray, List.getElem?_cons_zero, List.getElem?_cons_succ]; rfl) (fun K hK => ?_) AllReadyH.nil
                go_simp
                (go_at_call 32; with_reducible refine (HHF'.out _ (HBW.out _ hw0)).mono ?_; rintro e w3 ⟨rfl, hst3⟩; have hbw3 := HST.out _ _ hw0 hst3)
                (try go_wp2_with fail)
                refine hK.out _ _ ?_ (fun hHeld => ?_)
                · (try dsimp only); (first | with_reducible exact HSS.out _ (by with_reducible assumption) | with_reducible exact HSS.out _ hw0)
                clear hK K
                (try simp only [Act.put, List.setIfInBounds_toArray, List.set_cons_zero, List.set_cons_succ])
                refine wpAnyH_ready (rs := [3]) (by kernel_rfl) (by simp) ?_
                refine AllReadyH.cons (by simp only [List.getElem?_toArray, List.getElem?_cons_zero, List.getElem?_cons_succ]; rfl) (fun K hK => ?_) AllReadyH.nil
                go_simp
                (go_at_call 32; with_reducible refine (HHG'.out _ (HBW.out _ hbw3)).mono ?_; rintro e w4 ⟨rfl, hst4⟩; have hbw4 := HST.out _ _ hbw3 hst4)
                (try go_wp2_with fail)
                refine hK.out _ _ ?_ (fun hHeld => ?_)
                · (try dsimp only); (first | with_reducible exact HSS.out _ (by with_reducible assumption) | with_reducible exact HSS.out _ hw0)
                clear hK K
                (try simp only [Act.put, List.setIfInBounds_toArray, List.set_cons_zero, List.set_cons_succ])
                refine wpAnyH_take (i := 4) (v := ?_) (by simp only [List.getElem?_toArray, List.getElem?_cons_zero, List.getElem?_cons_succ]; rfl) (by kernel_rfl) (by kernel_rfl) (by kernel_rfl) (by exact fun _ _ _ h => h) (Or.inl ⟨by rfl, ?_⟩) (by assumption) ?_
                rotate_left
                · intro W hSW; (try dsimp only at hSW); go_simp; (try with_reducible rfl)
                (try simp only [Act.put, List.setIfInBounds_toArray, List.set_cons_zero, List.set_cons_succ])
                refine wpAnyH_take (i := 5) (v := ?_) (by simp only [List.getElem?_toArray, List.getElem?_cons_zero, List.getElem?_cons_succ]; rfl) (by kernel_rfl) (by kernel_rfl) (by kernel_rfl) (by exact fun _ _ _ h => h) (Or.inl ⟨by rfl, ?_⟩) (by assumption) ?_
                rotate_left
                · intro W hSW; (try dsimp only at hSW); go_simp; (try with_reducible rfl)
                (try simp only [Act.put, List.setIfInBounds_toArray, List.set_cons_zero, List.set_cons_succ])
                refine wpAnyH_take (i := 6) (v := ?_) (by simp only [List.getElem?_toArray, List.getElem?_cons_zero, List.getElem?_cons_succ]; rfl) (by kernel_rfl) (by kernel_rfl) (by kernel_rfl) (by exact fun _ _ _ h => h) (Or.inl ⟨by rfl, ?_⟩) (by assumption) ?_
                rotate_left
                · intro W hSW; (try dsimp only at hSW); go_simp; (try with_reducible rfl)
                (try simp only [Act.put, List.setIfInBounds_toArray, List.set_cons_zero, List.set_cons_succ])
                refine wpAnyH_take (i := 7) (v := ?_) (by simp only [List.getElem?_toArray, List.getElem?_cons_zero, List.getElem?_cons_succ]; rfl) (by kernel_rfl) (by kernel_rfl) (by kernel_rfl) (by exact fun _ _ _ h => h) (Or.inl ⟨by rfl, ?_⟩) (by assumption) ?_
                rotate_left
                · intro W hSW; (try dsimp only at hSW); go_simp; (try with_reducible rfl)
                (try simp only [Act.put, List.setIfInBounds_toArray, List.set_cons_zero, List.set_cons_succ])
                refine wpAnyH_take (i := 8) (v := ?_) (by simp only [List.getElem?_toArray, List.getElem?_cons_zero, List.getElem?_cons_succ]; rfl) (by kernel_rfl) (by kernel_rfl) (by kernel_rfl) (by exact fun _ _ _ h => h) (Or.inl ⟨by rfl, ?_⟩) (by assumption) ?_
                rotate_left
                · intro W hSW; (try dsimp only at hSW); go_simp; (try with_reducible rfl)
                (try simp only [Act.put, List.setIfInBounds_toArray, List.set_cons_zero, List.set_cons_succ])
                refine wpAnyH_take (i := 9) (v := ?_) (by simp only [List.getElem?_toArray, List.getElem?_cons_zero, List.getElem?_cons_succ]; rfl) (by kernel_rfl) (by kernel_rfl) (by kernel_rfl) (by exact fun _ _ _ h => h) (Or.inl ⟨by rfl, ?_⟩) (by assumption) ?_
                rotate_left
                · intro W hSW; (try dsimp only at hSW); go_simp; (try with_reducible rfl)
                (try simp only [Act.put, List.setIfInBounds_toArray, List.set_cons_zero, List.set_cons_succ])
                refine wpAnyH_take (i := 10) (v := ?_) (by simp only [List.getElem?_toArray, List.getElem?_cons_zero, List.getElem?_cons_succ]; rfl) (by kernel_rfl) (by kernel_rfl) (by kernel_rfl) (by exact fun _ _ _ h => h) (Or.inl ⟨by rfl, ?_⟩) (by assumption) ?_
                rotate_left
                · intro W hSW; (try dsimp only at hSW); go_simp; (try with_reducible rfl)
                (try simp only [Act.put, List.setIfInBounds_toArray, List.set_cons_zero, List.set_cons_succ])
                refine wpAnyH_take (i := 11) (v := ?_) (by simp only [List.getElem?_toArray, List.getElem?_cons_zero, List.getElem?_cons_succ]; rfl) (by kernel_rfl) (by kernel_rfl) (by kernel_rfl) (by exact fun _ _ _ h => h) (Or.inl ⟨by rfl, ?_⟩) (by assumption) ?_
                rotate_left
                · intro W hSW; (try dsimp only at hSW); go_simp; (try with_reducible rfl)
                (try simp only [Act.put, List.setIfInBounds_toArray, List.set_cons_zero, List.set_cons_succ])
                refine wpAnyH_take (i := 12) (v := ?_) (by simp only [List.getElem?_toArray, List.getElem?_cons_zero, List.getElem?_cons_succ]; rfl) (by kernel_rfl) (by kernel_rfl) (by kernel_rfl) (by exact fun _ _ _ h => h) (Or.inl ⟨by rfl, ?_⟩) (by assumption) ?_
                rotate_left
                · intro W hSW; (try dsimp only at hSW); go_simp; (try with_reducible rfl)
                (try simp only [Act.put, List.setIfInBounds_toArray, List.set_cons_zero, List.set_cons_succ])
                refine wpAnyH_take (i := 13) (v := ?_) (by simp only [List.getElem?_toArray, List.getElem?_cons_zero, List.getElem?_cons_succ]; rfl) (by kernel_rfl) (by kernel_rfl) (by kernel_rfl) (by exact fun _ _ _ h => h) (Or.inl ⟨by rfl, ?_⟩) (by assumption) ?_
                rotate_left
                · intro W hSW; (try dsimp only at hSW); go_simp; (try with_reducible rfl)
                (try simp only [Act.put, List.setIfInBounds_toArray, List.set_cons_zero, List.set_cons_succ])
                refine wpAnyH_done (by kernel_rfl) ?_ _
                have hbd4 : Below w2.heap.size w2 w4.drew := hbw4.drew
                go_wp2_with fail
                refine wp_region_held_drew (S := (fun W => W.cell? ⟨w.heap.size, 0, none⟩ = some (.string s) ∧ W.cell? ⟨w.heap.size, 1, none⟩ = some (.slice (some ⟨b1, f1, none⟩) lp c) ∧ W.cell? ⟨w.heap.size + 1, 0, none⟩ = some (.string s') ∧ W.cell? ⟨w.heap.size + 1, 1, none⟩ = some (.slice (some ⟨b2, f2, none⟩) lq c') ∧ W.cell? ⟨b1, f1 + 6, none⟩ = some (.string U) ∧ W.cell? ⟨b1, f1 + 6 + 1, none⟩ = some (.slice ou nu cu) ∧ W.cell? ⟨b2, f2 + 6, none⟩ = some (.string U') ∧ W.cell? ⟨b2, f2 + 6 + 1, none⟩ = some (.slice ou' nu' cu') ∧ W.cell? ⟨b1, f1 + 8, none⟩ = some (.string V) ∧ W.cell? ⟨b1, f1 + 8 + 1, none⟩ = some (.slice ov nv cv) ∧ W.cell? ⟨b2, f2 + 8, none⟩ = some (.string V') ∧ W.cell? ⟨b2, f2 + 8 + 1, none⟩ = some (.slice ov' nv' cv'))) (by kernel_rfl) ?_ (fun hHeld => ?_)
                · (try dsimp only); exact HSP.out _ hbd4
                refine wpAnyH_take (i := 0) (v := ?_) (by simp only [List.getElem?_toArray, List.getElem?_cons_zero]; rfl) (by kernel_rfl) (by kernel_rfl) (by kernel_rfl) (by exact fun _ _ _ h => h) (Or.inl ⟨by rfl, ?_⟩) (by assumption) ?_
                rotate_left
                · intro W hSW; (try dsimp only at hSW); go_simp; (try with_reducible rfl)
                (try simp only [Act.put, List.setIfInBounds_toArray, List.set_cons_zero, List.set_cons_succ])
                refine wpAnyH_ready (rs := [1]) (by kernel_rfl) (by simp) ?_
                refine AllReadyH.cons (by simp only [List.getElem?_toArray, List.getElem?_cons_zero, List.getElem?_cons_succ]; rfl) (fun K hK => ?_) AllReadyH.nil
                go_simp
                (go_at_call 32; with_reducible refine (HHF'.out _ (HBW.out _ hbd4)).mono ?_; rintro e w5 ⟨rfl, hst5⟩; have hbw5 := HST.out _ _ hbd4 hst5)
                (try go_wp2_with fail)
                refine hK.out _ _ ?_ (fun hHeld => ?_)
                · (try dsimp only); (with_reducible exact HSP.out _ (by with_reducible assumption))
                clear hK K
                (try simp only [Act.put, List.setIfInBounds_toArray, List.set_cons_zero, List.set_cons_succ])
                refine wpAnyH_take (i := 2) (v := ?_) (by simp only [List.getElem?_toArray, List.getElem?_cons_zero, List.getElem?_cons_succ]; rfl) (by kernel_rfl) (by kernel_rfl) (by kernel_rfl) (by exact fun _ _ _ h => h) (Or.inl ⟨by rfl, ?_⟩) (by assumption) ?_
                rotate_left
                · intro W hSW; (try dsimp only at hSW); go_simp; (try with_reducible rfl)
                (try simp only [Act.put, List.setIfInBounds_toArray, List.set_cons_zero, List.set_cons_succ])
                refine wpAnyH_take (i := 3) (v := ?_) (by simp only [List.getElem?_toArray, List.getElem?_cons_zero, List.getElem?_cons_succ]; rfl) (by kernel_rfl) (by kernel_rfl) (by kernel_rfl) (by exact fun _ _ _ h => h) (Or.inl ⟨by rfl, ?_⟩) (by assumption) ?_
                rotate_left
                · intro W hSW; (try dsimp only at hSW); go_simp; (try with_reducible rfl)
                (try simp only [Act.put, List.setIfInBounds_toArray, List.set_cons_zero, List.set_cons_succ])
                refine wpAnyH_take (i := 4) (v := ?_) (by simp only [List.getElem?_toArray, List.getElem?_cons_zero, List.getElem?_cons_succ]; rfl) (by kernel_rfl) (by kernel_rfl) (by kernel_rfl) (by exact fun _ _ _ h => h) (Or.inl ⟨by rfl, ?_⟩) (by assumption) ?_
                rotate_left
                · intro W hSW; (try dsimp only at hSW); go_simp; (try with_reducible rfl)
                (try simp only [Act.put, List.setIfInBounds_toArray, List.set_cons_zero, List.set_cons_succ])
                refine wpAnyH_take (i := 5) (v := ?_) (by simp only [List.getElem?_toArray, List.getElem?_cons_zero, List.getElem?_cons_succ]; rfl) (by kernel_rfl) (by kernel_rfl) (by kernel_rfl) (by exact fun _ _ _ h => h) (Or.inl ⟨by rfl, ?_⟩) (by assumption) ?_
                rotate_left
                · intro W hSW; (try dsimp only at hSW); go_simp; (try with_reducible rfl)
                (try simp only [Act.put, List.setIfInBounds_toArray, List.set_cons_zero, List.set_cons_succ])
                refine wpAnyH_take (i := 6) (v := ?_) (by simp only [List.getElem?_toArray, List.getElem?_cons_zero, List.getElem?_cons_succ]; rfl) (by kernel_rfl) (by kernel_rfl) (by kernel_rfl) (by exact fun _ _ _ h => h) (Or.inl ⟨by rfl, ?_⟩) (by assumption) ?_
                rotate_left
                · intro W hSW; (try dsimp only at hSW); go_simp; (try with_reducible rfl)
                (try simp only [Act.put, List.setIfInBounds_toArray, List.set_cons_zero, List.set_cons_succ])
                refine wpAnyH_take (i := 7) (v := ?_) (by simp only [List.getElem?_toArray, List.getElem?_cons_zero, List.getElem?_cons_succ]; rfl) (by kernel_rfl) (by kernel_rfl) (by kernel_rfl) (by exact fun _ _ _ h => h) (Or.inl ⟨by rfl, ?_⟩) (by assumption) ?_
                rotate_left
                · intro W hSW; (try dsimp only at hSW); go_simp; (try with_reducible rfl)
                (try simp only [Act.put, List.setIfInBounds_toArray, List.set_cons_zero, List.set_cons_succ])
                refine wpAnyH_take (i := 8) (v := ?_) (by simp only [List.getElem?_toArray, List.getElem?_cons_zero, List.getElem?_cons_succ]; rfl) (by kernel_rfl) (by kernel_rfl) (by kernel_rfl) (by exact fun _ _ _ h => h) (Or.inl ⟨by rfl, ?_⟩) (by assumption) ?_
                rotate_left
                · intro W hSW; (try dsimp only at hSW); go_simp; (try with_reducible rfl)
                (try simp only [Act.put, List.setIfInBounds_toArray, List.set_cons_zero, List.set_cons_succ])
                refine wpAnyH_take (i := 9) (v := ?_) (by simp only [List.getElem?_toArray, List.getElem?_cons_zero, List.getElem?_cons_succ]; rfl) (by kernel_rfl) (by kernel_rfl) (by kernel_rfl) (by exact fun _ _ _ h => h) (Or.inl ⟨by rfl, ?_⟩) (by assumption) ?_
                rotate_left
                · intro W hSW; (try dsimp only at hSW); go_simp; (try with_reducible rfl)
                (try simp only [Act.put, List.setIfInBounds_toArray, List.set_cons_zero, List.set_cons_succ])
                refine wpAnyH_take (i := 10) (v := ?_) (by simp only [List.getElem?_toArray, List.getElem?_cons_zero, List.getElem?_cons_succ]; rfl) (by kernel_rfl) (by kernel_rfl) (by kernel_rfl) (by exact fun _ _ _ h => h) (Or.inl ⟨by rfl, ?_⟩) (by assumption) ?_
                rotate_left
                · intro W hSW; (try dsimp only at hSW); go_simp; (try with_reducible rfl)
                (try simp only [Act.put, List.setIfInBounds_toArray, List.set_cons_zero, List.set_cons_succ])
                refine wpAnyH_take (i := 11) (v := ?_) (by simp only [List.getElem?_toArray, List.getElem?_cons_zero, List.getElem?_cons_succ]; rfl) (by kernel_rfl) (by kernel_rfl) (by kernel_rfl) (by exact fun _ _ _ h => h) (Or.inl ⟨by rfl, ?_⟩) (by assumption) ?_
                rotate_left
                · intro W hSW; (try dsimp only at hSW); go_simp; (try with_reducible rfl)
                (try simp only [Act.put, List.setIfInBounds_toArray, List.set_cons_zero, List.set_cons_succ])
                refine wpAnyH_ready (rs := [12]) (by kernel_rfl) (by simp) ?_
                refine AllReadyH.cons (by simp only [List.getElem?_toArray, List.getElem?_cons_zero, List.getElem?_cons_succ]; rfl) (fun K hK => ?_) AllReadyH.nil
                go_simp
                (go_at_call 63; with_reducible refine (HSU.out _ hbw5).mono ?_; rintro e w8 ⟨rfl, hst8⟩; have hbw8 := HST.out _ _ hbw5 hst8)
                (try go_wp2_with fail)
                refine hK.out _ _ ?_ (fun hHeld => ?_)
                · (try dsimp only); (with_reducible exact HSP.out _ (by with_reducible assumption))
                clear hK K
                (try simp only [Act.put, List.setIfInBounds_toArray, List.set_cons_zero, List.set_cons_succ])
                refine wpAnyH_take (i := 13) (v := ?_) (by simp only [List.getElem?_toArray, List.getElem?_cons_zero, List.getElem?_cons_succ]; rfl) (by kernel_rfl) (by kernel_rfl) (by kernel_rfl) (by exact fun _ _ _ h => h) (Or.inl ⟨by rfl, ?_⟩) (by assumption) ?_
                rotate_left
                · intro W hSW; (try dsimp only at hSW); go_simp; (try with_reducible rfl)
                (try simp only [Act.put, List.setIfInBounds_toArray, List.set_cons_zero, List.set_cons_succ])
                refine wpAnyH_take (i := 14) (v := ?_) (by simp only [List.getElem?_toArray, List.getElem?_cons_zero, List.getElem?_cons_succ]; rfl) (by kernel_rfl) (by kernel_rfl) (by kernel_rfl) (by exact fun _ _ _ h => h) (Or.inl ⟨by rfl, ?_⟩) (by assumption) ?_
                rotate_left
                · intro W hSW; (try dsimp only at hSW); go_simp; (try with_reducible rfl)
                (try simp only [Act.put, List.setIfInBounds_toArray, List.set_cons_zero, List.set_cons_succ])
                refine wpAnyH_take (i := 15) (by simp only [List.getElem?_toArray, List.getElem?_cons_zero, List.getElem?_cons_succ]; rfl) (by kernel_rfl) (by kernel_rfl) (by kernel_rfl) (by exact fun _ _ _ h => h) (Or.inr ⟨by rfl, rfl⟩) (by assumption) ?_
                (try simp only [Act.put, List.setIfInBounds_toArray, List.set_cons_zero, List.set_cons_succ])
                refine wpAnyH_take (i := 16) (by simp only [List.getElem?_toArray, List.getElem?_cons_zero, List.getElem?_cons_succ]; rfl) (by kernel_rfl) (by kernel_rfl) (by kernel_rfl) (by exact fun _ _ _ h => h) (Or.inr ⟨by rfl, rfl⟩) (by assumption) ?_
                (try simp only [Act.put, List.setIfInBounds_toArray, List.set_cons_zero, List.set_cons_succ])
                refine wpAnyH_take (i := 17) (by simp only [List.getElem?_toArray, List.getElem?_cons_zero, List.getElem?_cons_succ]; rfl) (by kernel_rfl) (by kernel_rfl) (by kernel_rfl) (by exact fun _ _ _ h => h) (Or.inr ⟨by rfl, rfl⟩) (by assumption) ?_
                (try simp only [Act.put, List.setIfInBounds_toArray, List.set_cons_zero, List.set_cons_succ])
                refine wpAnyH_take (i := 18) (by simp only [List.getElem?_toArray, List.getElem?_cons_zero, List.getElem?_cons_succ]; rfl) (by kernel_rfl) (by kernel_rfl) (by kernel_rfl) (by exact fun _ _ _ h => h) (Or.inr ⟨by rfl, rfl⟩) (by assumption) ?_
                (try simp only [Act.put, List.setIfInBounds_toArray, List.set_cons_zero, List.set_cons_succ])
                refine wpAnyH_take (i := 19) (by simp only [List.getElem?_toArray, List.getElem?_cons_zero, List.getElem?_cons_succ]; rfl) (by kernel_rfl) (by kernel_rfl) (by kernel_rfl) (by exact fun _ _ _ h => h) (Or.inr ⟨by rfl, rfl⟩) (by assumption) ?_
                (try simp only [Act.put, List.setIfInBounds_toArray, List.set_cons_zero, List.set_cons_succ])
                refine wpAnyH_take (i := 20) (by simp only [List.getElem?_toArray, List.getElem?_cons_zero, List.getElem?_cons_succ]; rfl) (by kernel_rfl) (by kernel_rfl) (by kernel_rfl) (by exact fun _ _ _ h => h) (Or.inr ⟨by rfl, rfl⟩) (by assumption) ?_
                (try simp only [Act.put, List.setIfInBounds_toArray, List.set_cons_zero, List.set_cons_succ])
                refine wpAnyH_take (i := 21) (by simp only [List.getElem?_toArray, List.getElem?_cons_zero, List.getElem?_cons_succ]; rfl) (by kernel_rfl) (by kernel_rfl) (by kernel_rfl) (by exact fun _ _ _ h => h) (Or.inr ⟨by rfl, rfl⟩) (by assumption) ?_
                (try simp only [Act.put, List.setIfInBounds_toArray, List.set_cons_zero, List.set_cons_succ])
                refine wpAnyH_take (i := 22) (by simp only [List.getElem?_toArray, List.getElem?_cons_zero, List.getElem?_cons_succ]; rfl) (by kernel_rfl) (by kernel_rfl) (by kernel_rfl) (by exact fun _ _ _ h => h) (Or.inr ⟨by rfl, rfl⟩) (by assumption) ?_
                (try simp only [Act.put, List.setIfInBounds_toArray, List.set_cons_zero, List.set_cons_succ])
                refine wpAnyH_take (i := 23) (by simp only [List.getElem?_toArray, List.getElem?_cons_zero, List.getElem?_cons_succ]; rfl) (by kernel_rfl) (by kernel_rfl) (by kernel_rfl) (by exact fun _ _ _ h => h) (Or.inr ⟨by rfl, rfl⟩) (by assumption) ?_
                (try simp only [Act.put, List.setIfInBounds_toArray, List.set_cons_zero, List.set_cons_succ])
                refine wpAnyH_take (i := 24) (by simp only [List.getElem?_toArray, List.getElem?_cons_zero, List.getElem?_cons_succ]; rfl) (by kernel_rfl) (by kernel_rfl) (by kernel_rfl) (by exact fun _ _ _ h => h) (Or.inr ⟨by rfl, rfl⟩) (by assumption) ?_
                (try simp only [Act.put, List.setIfInBounds_toArray, List.set_cons_zero, List.set_cons_succ])
                refine wpAnyH_take (i := 25) (v := ?_) (by simp only [List.getElem?_toArray, List.getElem?_cons_zero, List.getElem?_cons_succ]; rfl) (by kernel_rfl) (by kernel_rfl) (by kernel_rfl) (by exact fun _ _ _ h => h) (Or.inl ⟨by rfl, ?_⟩) (by assumption) ?_
                rotate_left
                · intro W hSW; (try dsimp only at hSW); go_simp; (try with_reducible rfl)
                (try simp only [Act.put, List.setIfInBounds_toArray, List.set_cons_zero, List.set_cons_succ])
                refine wpAnyH_take (i := 26) (v := ?_) (by simp only [List.getElem?_toArray, List.getElem?_cons_zero, List.getElem?_cons_succ]; rfl) (by kernel_rfl) (by kernel_rfl) (by kernel_rfl) (by exact fun _ _ _ h => h) (Or.inl ⟨by rfl, ?_⟩) (by assumption) ?_
                rotate_left
                · intro W hSW; (try dsimp only at hSW); go_simp; (try with_reducible rfl)
                (try simp only [Act.put, List.setIfInBounds_toArray, List.set_cons_zero, List.set_cons_succ])
                refine wpAnyH_done (by kernel_rfl) ?_ _
                go_wp2
                go_ret
                exact ⟨ret_bool HF.out.symm, HBW.out _ (by with_reducible assumption)⟩
              · cases sv
                · have HF : Hid ((Tree.node s (p :: ps)).alike (.node s' (q :: qs)) a b = false) := by show _ = _; rw [HR3.out]; simp
                  clear HR HR2 HR3 HEF HEG HIH HIA HBF HBG HKI HC1 HC2 HKN HKG hpq hll2 hfun hkz
                  generalize p.atom = pa at *
                  generalize q.atom = qa at *
                  go_wp2_with fail
                  refine wp_region_held_drew (S := (fun W => W.cell? ⟨w.heap.size, 0, none⟩ = some (.string s) ∧ W.cell? ⟨w.heap.size, 1, none⟩ = some (.slice (some ⟨b1, f1, none⟩) lp c) ∧ W.cell? ⟨w.heap.size + 1, 0, none⟩ = some (.string s') ∧ W.cell? ⟨w.heap.size + 1, 1, none⟩ = some (.slice (some ⟨b2, f2, none⟩) lq c'))) (by kernel_rfl) ?_ (fun hHeld => ?_)
                  · (try dsimp only); exact HSS.out _ hw0
                  refine wpAnyH_take (i := 0) (v := ?_) (by simp only [List.getElem?_toArray, List.getElem?_cons_zero]; rfl) (by kernel_rfl) (by kernel_rfl) (by kernel_rfl) (by exact fun _ _ _ h => h) (Or.inl ⟨by rfl, ?_⟩) (by assumption) ?_
                  rotate_left
                  · intro W hSW; (try dsimp only at hSW); go_simp; (try with_reducible rfl)
                  (try simp only [Act.put, List.setIfInBounds_toArray, List.set_cons_zero, List.set_cons_succ])
                  refine wpAnyH_take (i := 2) (v := ?_) (by simp only [List.getElem?_toArray, List.getElem?_cons_zero, List.getElem?_cons_succ]; rfl) (by kernel_rfl) (by kernel_rfl) (by kernel_rfl) (by exact fun _ _ _ h => h) (Or.inl ⟨by rfl, ?_⟩) (by assumption) ?_
                  rotate_left
                  · intro W hSW; (try dsimp only at hSW); go_simp; (try with_reducible rfl)
                  (try simp only [Act.put, List.setIfInBounds_toArray, List.set_cons_zero, List.set_cons_succ])
                  refine wpAnyH_ready (rs := [1]) (by kernel_rfl) (by simp) ?_
                  refine AllReadyH.cons (by simp only [List.getElem?_toArray, List.getElem?_cons_zero, List.getElem?_cons_succ]; rfl) (fun K hK => ?_) AllReadyH.nil
                  go_simp
                  (go_at_call 32; with_reducible refine (HHF'.out _ (HBW.out _ hw0)).mono ?_; rintro e w3 ⟨rfl, hst3⟩; have hbw3 := HST.out _ _ hw0 hst3)
                  (try go_wp2_with fail)
                  refine hK.out _ _ ?_ (fun hHeld => ?_)
                  · (try dsimp only); (first | with_reducible exact HSS.out _ (by with_reducible assumption) | with_reducible exact HSS.out _ hw0)
                  clear hK K
                  (try simp only [Act.put, List.setIfInBounds_toArray, List.set_cons_zero, List.set_cons_succ])
                  refine wpAnyH_ready (rs := [3]) (by kernel_rfl) (by simp) ?_
                  refine AllReadyH.cons (by simp only [List.getElem?_toArray, List.getElem?_cons_zero, List.getElem?_cons_succ]; rfl) (fun K hK => ?_) AllReadyH.nil
                  go_simp
                  (go_at_call 32; with_reducible refine (HHG'.out _ (HBW.out _ hbw3)).mono ?_; rintro e w4 ⟨rfl, hst4⟩; have hbw4 := HST.out _ _ hbw3 hst4)
                  (try go_wp2_with fail)
                  refine hK.out _ _ ?_ (fun hHeld => ?_)
                  · (try dsimp only); (first | with_reducible exact HSS.out _ (by with_reducible assumption) | with_reducible exact HSS.out _ hw0)
                  clear hK K
                  (try simp only [Act.put, List.setIfInBounds_toArray, List.set_cons_zero, List.set_cons_succ])
                  refine wpAnyH_take (i := 4) (v := ?_) (by simp only [List.getElem?_toArray, List.getElem?_cons_zero, List.getElem?_cons_succ]; rfl) (by kernel_rfl) (by kernel_rfl) (by kernel_rfl) (by exact fun _ _ _ h => h) (Or.inl ⟨by rfl, ?_⟩) (by assumption) ?_
                  rotate_left
                  · intro W hSW; (try dsimp only at hSW); go_simp; (try with_reducible rfl)
                  (try simp only [Act.put, List.setIfInBounds_toArray, List.set_cons_zero, List.set_cons_succ])
                  refine wpAnyH_take (i := 5) (v := ?_) (by simp only [List.getElem?_toArray, List.getElem?_cons_zero, List.getElem?_cons_succ]; rfl) (by kernel_rfl) (by kernel_rfl) (by kernel_rfl) (by exact fun _ _ _ h => h) (Or.inl ⟨by rfl, ?_⟩) (by assumption) ?_
                  rotate_left
                  · intro W hSW; (try dsimp only at hSW); go_simp; (try with_reducible rfl)
                  (try simp only [Act.put, List.setIfInBounds_toArray, List.set_cons_zero, List.set_cons_succ])
                  refine wpAnyH_take (i := 6) (v := ?_) (by simp only [List.getElem?_toArray, List.getElem?_cons_zero, List.getElem?_cons_succ]; rfl) (by kernel_rfl) (by kernel_rfl) (by kernel_rfl) (by exact fun _ _ _ h => h) (Or.inl ⟨by rfl, ?_⟩) (by assumption) ?_
                  rotate_left
                  · intro W hSW; (try dsimp only at hSW); go_simp; (try with_reducible rfl)
                  (try simp only [Act.put, List.setIfInBounds_toArray, List.set_cons_zero, List.set_cons_succ])
                  refine wpAnyH_take (i := 7) (v := ?_) (by simp only [List.getElem?_toArray, List.getElem?_cons_zero, List.getElem?_cons_succ]; rfl) (by kernel_rfl) (by kernel_rfl) (by kernel_rfl) (by exact fun _ _ _ h => h) (Or.inl ⟨by rfl, ?_⟩) (by assumption) ?_
                  rotate_left
                  · intro W hSW; (try dsimp only at hSW); go_simp; (try with_reducible rfl)
                  (try simp only [Act.put, List.setIfInBounds_toArray, List.set_cons_zero, List.set_cons_succ])
                  refine wpAnyH_take (i := 8) (v := ?_) (by simp only [List.getElem?_toArray, List.getElem?_cons_zero, List.getElem?_cons_succ]; rfl) (by kernel_rfl) (by kernel_rfl) (by kernel_rfl) (by exact fun _ _ _ h => h) (Or.inl ⟨by rfl, ?_⟩) (by assumption) ?_
                  rotate_left
                  · intro W hSW; (try dsimp only at hSW); go_simp; (try with_reducible rfl)
                  (try simp only [Act.put, List.setIfInBounds_toArray, List.set_cons_zero, List.set_cons_succ])
                  refine wpAnyH_take (i := 9) (v := ?_) (by simp only [List.getElem?_toArray, List.getElem?_cons_zero, List.getElem?_cons_succ]; rfl) (by kernel_rfl) (by kernel_rfl) (by kernel_rfl) (by exact fun _ _ _ h => h) (Or.inl ⟨by rfl, ?_⟩) (by assumption) ?_
                  rotate_left
                  · intro W hSW; (try dsimp only at hSW); go_simp; (try with_reducible rfl)
                  (try simp only [Act.put, List.setIfInBounds_toArray, List.set_cons_zero, List.set_cons_succ])
                  refine wpAnyH_take (i := 10) (v := ?_) (by simp only [List.getElem?_toArray, List.getElem?_cons_zero, List.getElem?_cons_succ]; rfl) (by kernel_rfl) (by kernel_rfl) (by kernel_rfl) (by exact fun _ _ _ h => h) (Or.inl ⟨by rfl, ?_⟩) (by assumption) ?_
                  rotate_left
                  · intro W hSW; (try dsimp only at hSW); go_simp; (try with_reducible rfl)
                  (try simp only [Act.put, List.setIfInBounds_toArray, List.set_cons_zero, List.set_cons_succ])
                  refine wpAnyH_take (i := 11) (v := ?_) (by simp only [List.getElem?_toArray, List.getElem?_cons_zero, List.getElem?_cons_succ]; rfl) (by kernel_rfl) (by kernel_rfl) (by kernel_rfl) (by exact fun _ _ _ h => h) (Or.inl ⟨by rfl, ?_⟩) (by assumption) ?_
                  rotate_left
                  · intro W hSW; (try dsimp only at hSW); go_simp; (try with_reducible rfl)
                  (try simp only [Act.put, List.setIfInBounds_toArray, List.set_cons_zero, List.set_cons_succ])
                  refine wpAnyH_take (i := 12) (v := ?_) (by simp only [List.getElem?_toArray, List.getElem?_cons_zero, List.getElem?_cons_succ]; rfl) (by kernel_rfl) (by kernel_rfl) (by kernel_rfl) (by exact fun _ _ _ h => h) (Or.inl ⟨by rfl, ?_⟩) (by assumption) ?_
                  rotate_left
                  · intro W hSW; (try dsimp only at hSW); go_simp; (try with_reducible rfl)
                  (try simp only [Act.put, List.setIfInBounds_toArray, List.set_cons_zero, List.set_cons_succ])
                  refine wpAnyH_take (i := 13) (v := ?_) (by simp only [List.getElem?_toArray, List.getElem?_cons_zero, List.getElem?_cons_succ]; rfl) (by kernel_rfl) (by kernel_rfl) (by kernel_rfl) (by exact fun _ _ _ h => h) (Or.inl ⟨by rfl, ?_⟩) (by assumption) ?_
                  rotate_left
                  · intro W hSW; (try dsimp only at hSW); go_simp; (try with_reducible rfl)
                  (try simp only [Act.put, List.setIfInBounds_toArray, List.set_cons_zero, List.set_cons_succ])
                  refine wpAnyH_done (by kernel_rfl) ?_ _
                  have hbd4 : Below w2.heap.size w2 w4.drew := hbw4.drew
                  go_wp2_with fail
                  refine wp_region_held_drew (S := (fun W => W.cell? ⟨w.heap.size, 0, none⟩ = some (.string s) ∧ W.cell? ⟨w.heap.size, 1, none⟩ = some (.slice (some ⟨b1, f1, none⟩) lp c) ∧ W.cell? ⟨w.heap.size + 1, 0, none⟩ = some (.string s') ∧ W.cell? ⟨w.heap.size + 1, 1, none⟩ = some (.slice (some ⟨b2, f2, none⟩) lq c') ∧ W.cell? ⟨b1, f1 + 6, none⟩ = some (.string U) ∧ W.cell? ⟨b1, f1 + 6 + 1, none⟩ = some (.slice ou nu cu) ∧ W.cell? ⟨b2, f2 + 6, none⟩ = some (.string U') ∧ W.cell? ⟨b2, f2 + 6 + 1, none⟩ = some (.slice ou' nu' cu') ∧ W.cell? ⟨b1, f1 + 8, none⟩ = some (.string V) ∧ W.cell? ⟨b1, f1 + 8 + 1, none⟩ = some (.slice ov nv cv) ∧ W.cell? ⟨b2, f2 + 8, none⟩ = some (.string V') ∧ W.cell? ⟨b2, f2 + 8 + 1, none⟩ = some (.slice ov' nv' cv'))) (by kernel_rfl) ?_ (fun hHeld => ?_)
                  · (try dsimp only); exact HSP.out _ hbd4
                  refine wpAnyH_take (i := 0) (v := ?_) (by simp only [List.getElem?_toArray, List.getElem?_cons_zero]; rfl) (by kernel_rfl) (by kernel_rfl) (by kernel_rfl) (by exact fun _ _ _ h => h) (Or.inl ⟨by rfl, ?_⟩) (by assumption) ?_
                  rotate_left
                  · intro W hSW; (try dsimp only at hSW); go_simp; (try with_reducible rfl)
                  (try simp only [Act.put, List.setIfInBounds_toArray, List.set_cons_zero, List.set_cons_succ])
                  refine wpAnyH_ready (rs := [1]) (by kernel_rfl) (by simp) ?_
                  refine AllReadyH.cons (by simp only [List.getElem?_toArray, List.getElem?_cons_zero, List.getElem?_cons_succ]; rfl) (fun K hK => ?_) AllReadyH.nil
                  go_simp
                  (go_at_call 32; with_reducible refine (HHF'.out _ (HBW.out _ hbd4)).mono ?_; rintro e w5 ⟨rfl, hst5⟩; have hbw5 := HST.out _ _ hbd4 hst5)
                  (try go_wp2_with fail)
                  refine hK.out _ _ ?_ (fun hHeld => ?_)
                  · (try dsimp only); (with_reducible exact HSP.out _ (by with_reducible assumption))
                  clear hK K
                  (try simp only [Act.put, List.setIfInBounds_toArray, List.set_cons_zero, List.set_cons_succ])
                  refine wpAnyH_take (i := 2) (v := ?_) (by simp only [List.getElem?_toArray, List.getElem?_cons_zero, List.getElem?_cons_succ]; rfl) (by kernel_rfl) (by kernel_rfl) (by kernel_rfl) (by exact fun _ _ _ h => h) (Or.inl ⟨by rfl, ?_⟩) (by assumption) ?_
                  rotate_left
                  · intro W hSW; (try dsimp only at hSW); go_simp; (try with_reducible rfl)
                  (try simp only [Act.put, List.setIfInBounds_toArray, List.set_cons_zero, List.set_cons_succ])
                  refine wpAnyH_take (i := 3) (v := ?_) (by simp only [List.getElem?_toArray, List.getElem?_cons_zero, List.getElem?_cons_succ]; rfl) (by kernel_rfl) (by kernel_rfl) (by kernel_rfl) (by exact fun _ _ _ h => h) (Or.inl ⟨by rfl, ?_⟩) (by assumption) ?_
                  rotate_left
                  · intro W hSW; (try dsimp only at hSW); go_simp; (try with_reducible rfl)
                  (try simp only [Act.put, List.setIfInBounds_toArray, List.set_cons_zero, List.set_cons_succ])
                  refine wpAnyH_take (i := 4) (v := ?_) (by simp only [List.getElem?_toArray, List.getElem?_cons_zero, List.getElem?_cons_succ]; rfl) (by kernel_rfl) (by kernel_rfl) (by kernel_rfl) (by exact fun _ _ _ h => h) (Or.inl ⟨by rfl, ?_⟩) (by assumption) ?_
                  rotate_left
                  · intro W hSW; (try dsimp only at hSW); go_simp; (try with_reducible rfl)
                  (try simp only [Act.put, List.setIfInBounds_toArray, List.set_cons_zero, List.set_cons_succ])
                  refine wpAnyH_take (i := 5) (v := ?_) (by simp only [List.getElem?_toArray, List.getElem?_cons_zero, List.getElem?_cons_succ]; rfl) (by kernel_rfl) (by kernel_rfl) (by kernel_rfl) (by exact fun _ _ _ h => h) (Or.inl ⟨by rfl, ?_⟩) (by assumption) ?_
                  rotate_left
                  · intro W hSW; (try dsimp only at hSW); go_simp; (try with_reducible rfl)
                  (try simp only [Act.put, List.setIfInBounds_toArray, List.set_cons_zero, List.set_cons_succ])
                  refine wpAnyH_take (i := 6) (v := ?_) (by simp only [List.getElem?_toArray, List.getElem?_cons_zero, List.getElem?_cons_succ]; rfl) (by kernel_rfl) (by kernel_rfl) (by kernel_rfl) (by exact fun _ _ _ h => h) (Or.inl ⟨by rfl, ?_⟩) (by assumption) ?_
                  rotate_left
                  · intro W hSW; (try dsimp only at hSW); go_simp; (try with_reducible rfl)
                  (try simp only [Act.put, List.setIfInBounds_toArray, List.set_cons_zero, List.set_cons_succ])
                  refine wpAnyH_take (i := 7) (v := ?_) (by simp only [List.getElem?_toArray, List.getElem?_cons_zero, List.getElem?_cons_succ]; rfl) (by kernel_rfl) (by kernel_rfl) (by kernel_rfl) (by exact fun _ _ _ h => h) (Or.inl ⟨by rfl, ?_⟩) (by assumption) ?_
                  rotate_left
                  · intro W hSW; (try dsimp only at hSW); go_simp; (try with_reducible rfl)
                  (try simp only [Act.put, List.setIfInBounds_toArray, List.set_cons_zero, List.set_cons_succ])
                  refine wpAnyH_take (i := 8) (v := ?_) (by simp only [List.getElem?_toArray, List.getElem?_cons_zero, List.getElem?_cons_succ]; rfl) (by kernel_rfl) (by kernel_rfl) (by kernel_rfl) (by exact fun _ _ _ h => h) (Or.inl ⟨by rfl, ?_⟩) (by assumption) ?_
                  rotate_left
                  · intro W hSW; (try dsimp only at hSW); go_simp; (try with_reducible rfl)
                  (try simp only [Act.put, List.setIfInBounds_toArray, List.set_cons_zero, List.set_cons_succ])
                  refine wpAnyH_take (i := 9) (v := ?_) (by simp only [List.getElem?_toArray, List.getElem?_cons_zero, List.getElem?_cons_succ]; rfl) (by kernel_rfl) (by kernel_rfl) (by kernel_rfl) (by exact fun _ _ _ h => h) (Or.inl ⟨by rfl, ?_⟩) (by assumption) ?_
                  rotate_left
                  · intro W hSW; (try dsimp only at hSW); go_simp; (try with_reducible rfl)
                  (try simp only [Act.put, List.setIfInBounds_toArray, List.set_cons_zero, List.set_cons_succ])
                  refine wpAnyH_take (i := 10) (v := ?_) (by simp only [List.getElem?_toArray, List.getElem?_cons_zero, List.getElem?_cons_succ]; rfl) (by kernel_rfl) (by kernel_rfl) (by kernel_rfl) (by exact fun _ _ _ h => h) (Or.inl ⟨by rfl, ?_⟩) (by assumption) ?_
                  rotate_left
                  · intro W hSW; (try dsimp only at hSW); go_simp; (try with_reducible rfl)
                  (try simp only [Act.put, List.setIfInBounds_toArray, List.set_cons_zero, List.set_cons_succ])
                  refine wpAnyH_take (i := 11) (v := ?_) (by simp only [List.getElem?_toArray, List.getElem?_cons_zero, List.getElem?_cons_succ]; rfl) (by kernel_rfl) (by kernel_rfl) (by kernel_rfl) (by exact fun _ _ _ h => h) (Or.inl ⟨by rfl, ?_⟩) (by assumption) ?_
                  rotate_left
                  · intro W hSW; (try dsimp only at hSW); go_simp; (try with_reducible rfl)
                  (try simp only [Act.put, List.setIfInBounds_toArray, List.set_cons_zero, List.set_cons_succ])
                  refine wpAnyH_ready (rs := [12]) (by kernel_rfl) (by simp) ?_
                  refine AllReadyH.cons (by simp only [List.getElem?_toArray, List.getElem?_cons_zero, List.getElem?_cons_succ]; rfl) (fun K hK => ?_) AllReadyH.nil
                  go_simp
                  (go_at_call 63; with_reducible refine (HSU.out _ hbw5).mono ?_; rintro e w8 ⟨rfl, hst8⟩; have hbw8 := HST.out _ _ hbw5 hst8)
                  (try go_wp2_with fail)
                  refine hK.out _ _ ?_ (fun hHeld => ?_)
                  · (try dsimp only); (with_reducible exact HSP.out _ (by with_reducible assumption))
                  clear hK K
                  (try simp only [Act.put, List.setIfInBounds_toArray, List.set_cons_zero, List.set_cons_succ])
                  refine wpAnyH_take (i := 13) (v := ?_) (by simp only [List.getElem?_toArray, List.getElem?_cons_zero, List.getElem?_cons_succ]; rfl) (by kernel_rfl) (by kernel_rfl) (by kernel_rfl) (by exact fun _ _ _ h => h) (Or.inl ⟨by rfl, ?_⟩) (by assumption) ?_
                  rotate_left
                  · intro W hSW; (try dsimp only at hSW); go_simp; (try with_reducible rfl)
                  (try simp only [Act.put, List.setIfInBounds_toArray, List.set_cons_zero, List.set_cons_succ])
                  refine wpAnyH_take (i := 14) (v := ?_) (by simp only [List.getElem?_toArray, List.getElem?_cons_zero, List.getElem?_cons_succ]; rfl) (by kernel_rfl) (by kernel_rfl) (by kernel_rfl) (by exact fun _ _ _ h => h) (Or.inl ⟨by rfl, ?_⟩) (by assumption) ?_
                  rotate_left
                  · intro W hSW; (try dsimp only at hSW); go_simp; (try with_reducible rfl)
                  (try simp only [Act.put, List.setIfInBounds_toArray, List.set_cons_zero, List.set_cons_succ])
                  refine wpAnyH_take (i := 15) (v := ?_) (by simp only [List.getElem?_toArray, List.getElem?_cons_zero, List.getElem?_cons_succ]; rfl) (by kernel_rfl) (by kernel_rfl) (by kernel_rfl) (by exact fun _ _ _ h => h) (Or.inl ⟨by rfl, ?_⟩) (by assumption) ?_
                  rotate_left
                  · intro W hSW; (try dsimp only at hSW); go_simp; (try with_reducible rfl)
                  (try simp only [Act.put, List.setIfInBounds_toArray, List.set_cons_zero, List.set_cons_succ])
                  refine wpAnyH_take (i := 16) (v := ?_) (by simp only [List.getElem?_toArray, List.getElem?_cons_zero, List.getElem?_cons_succ]; rfl) (by kernel_rfl) (by kernel_rfl) (by kernel_rfl) (by exact fun _ _ _ h => h) (Or.inl ⟨by rfl, ?_⟩) (by assumption) ?_
                  rotate_left
                  · intro W hSW; (try dsimp only at hSW); go_simp; (try with_reducible rfl)
                  (try simp only [Act.put, List.setIfInBounds_toArray, List.set_cons_zero, List.set_cons_succ])
                  refine wpAnyH_take (i := 17) (v := ?_) (by simp only [List.getElem?_toArray, List.getElem?_cons_zero, List.getElem?_cons_succ]; rfl) (by kernel_rfl) (by kernel_rfl) (by kernel_rfl) (by exact fun _ _ _ h => h) (Or.inl ⟨by rfl, ?_⟩) (by assumption) ?_
                  rotate_left
                  · intro W hSW; (try dsimp only at hSW); go_simp; (try with_reducible rfl)
                  (try simp only [Act.put, List.setIfInBounds_toArray, List.set_cons_zero, List.set_cons_succ])
                  refine wpAnyH_take (i := 18) (v := ?_) (by simp only [List.getElem?_toArray, List.getElem?_cons_zero, List.getElem?_cons_succ]; rfl) (by kernel_rfl) (by kernel_rfl) (by kernel_rfl) (by exact fun _ _ _ h => h) (Or.inl ⟨by rfl, ?_⟩) (by assumption) ?_
                  rotate_left
                  · intro W hSW; (try dsimp only at hSW); go_simp; (try with_reducible rfl)
                  (try simp only [Act.put, List.setIfInBounds_toArray, List.set_cons_zero, List.set_cons_succ])
                  refine wpAnyH_take (i := 19) (v := ?_) (by simp only [List.getElem?_toArray, List.getElem?_cons_zero, List.getElem?_cons_succ]; rfl) (by kernel_rfl) (by kernel_rfl) (by kernel_rfl) (by exact fun _ _ _ h => h) (Or.inl ⟨by rfl, ?_⟩) (by assumption) ?_
                  rotate_left
                  · intro W hSW; (try dsimp only at hSW); go_simp; (try with_reducible rfl)
                  (try simp only [Act.put, List.setIfInBounds_toArray, List.set_cons_zero, List.set_cons_succ])
                  refine wpAnyH_take (i := 20) (v := ?_) (by simp only [List.getElem?_toArray, List.getElem?_cons_zero, List.getElem?_cons_succ]; rfl) (by kernel_rfl) (by kernel_rfl) (by kernel_rfl) (by exact fun _ _ _ h => h) (Or.inl ⟨by rfl, ?_⟩) (by assumption) ?_
                  rotate_left
                  · intro W hSW; (try dsimp only at hSW); go_simp; (try with_reducible rfl)
                  (try simp only [Act.put, List.setIfInBounds_toArray, List.set_cons_zero, List.set_cons_succ])
                  refine wpAnyH_take (i := 21) (v := ?_) (by simp only [List.getElem?_toArray, List.getElem?_cons_zero, List.getElem?_cons_succ]; rfl) (by kernel_rfl) (by kernel_rfl) (by kernel_rfl) (by exact fun _ _ _ h => h) (Or.inl ⟨by rfl, ?_⟩) (by assumption) ?_
                  rotate_left
                  · intro W hSW; (try dsimp only at hSW); go_simp; (try with_reducible rfl)
                  (try simp only [Act.put, List.setIfInBounds_toArray, List.set_cons_zero, List.set_cons_succ])
                  refine wpAnyH_take (i := 22) (v := ?_) (by simp only [List.getElem?_toArray, List.getElem?_cons_zero, List.getElem?_cons_succ]; rfl) (by kernel_rfl) (by kernel_rfl) (by kernel_rfl) (by exact fun _ _ _ h => h) (Or.inl ⟨by rfl, ?_⟩) (by assumption) ?_
                  rotate_left
                  · intro W hSW; (try dsimp only at hSW); go_simp; (try with_reducible rfl)
                  (try simp only [Act.put, List.setIfInBounds_toArray, List.set_cons_zero, List.set_cons_succ])
                  refine wpAnyH_ready (rs := [23]) (by kernel_rfl) (by simp) ?_
                  refine AllReadyH.cons (by simp only [List.getElem?_toArray, List.getElem?_cons_zero, List.getElem?_cons_succ]; rfl) (fun K hK => ?_) AllReadyH.nil
                  go_simp
                  (go_at_call 63; with_reducible refine (HSV.out _ hbw8).mono ?_; rintro e w9 ⟨rfl, hst9⟩; have hbw9 := HST.out _ _ hbw8 hst9)
                  (try go_wp2_with fail)
                  refine hK.out _ _ ?_ (fun hHeld => ?_)
                  · (try dsimp only); (with_reducible exact HSP.out _ (by with_reducible assumption))
                  clear hK K
                  (try simp only [Act.put, List.setIfInBounds_toArray, List.set_cons_zero, List.set_cons_succ])
                  refine wpAnyH_take (i := 24) (v := ?_) (by simp only [List.getElem?_toArray, List.getElem?_cons_zero, List.getElem?_cons_succ]; rfl) (by kernel_rfl) (by kernel_rfl) (by kernel_rfl) (by exact fun _ _ _ h => h) (Or.inl ⟨by rfl, ?_⟩) (by assumption) ?_
                  rotate_left
                  · intro W hSW; (try dsimp only at hSW); go_simp; (try with_reducible rfl)
                  (try simp only [Act.put, List.setIfInBounds_toArray, List.set_cons_zero, List.set_cons_succ])
                  refine wpAnyH_take (i := 25) (v := ?_) (by simp only [List.getElem?_toArray, List.getElem?_cons_zero, List.getElem?_cons_succ]; rfl) (by kernel_rfl) (by kernel_rfl) (by kernel_rfl) (by exact fun _ _ _ h => h) (Or.inl ⟨by rfl, ?_⟩) (by assumption) ?_
                  rotate_left
                  · intro W hSW; (try dsimp only at hSW); go_simp; (try with_reducible rfl)
                  (try simp only [Act.put, List.setIfInBounds_toArray, List.set_cons_zero, List.set_cons_succ])
                  refine wpAnyH_take (i := 26) (v := ?_) (by simp only [List.getElem?_toArray, List.getElem?_cons_zero, List.getElem?_cons_succ]; rfl) (by kernel_rfl) (by kernel_rfl) (by kernel_rfl) (by exact fun _ _ _ h => h) (Or.inl ⟨by rfl, ?_⟩) (by assumption) ?_
                  rotate_left
                  · intro W hSW; (try dsimp only at hSW); go_simp; (try with_reducible rfl)
                  (try simp only [Act.put, List.setIfInBounds_toArray, List.set_cons_zero, List.set_cons_succ])
                  refine wpAnyH_done (by kernel_rfl) ?_ _
                  go_wp2
                  go_ret
                  exact ⟨ret_bool HF.out.symm, HBW.out _ (by with_reducible assumption)⟩
                · have HRK : Hid ((Tree.node s (p :: ps)).alike (.node s' (q :: qs)) a b = (kidsOf p.atom.data.toList lp).all fun i => Tree.alike (nth (p :: ps) i) (nth (q :: qs) i) (a ++ (Tree.node s (p :: ps)).bindsAt i) (b ++ (Tree.node s' (q :: qs)).bindsAt i)) := by
                    show _ = _
                    rw [HR3.out]; rfl
                  clear HR HR2 HR3 HEF HEG HIH HZ HGG hkz hfun
                  generalize hks : kidsOf p.atom.data.toList lp = ks at *
                  generalize (Tree.node s (p :: ps)).bindsAt = BF at *
                  generalize (Tree.node s' (q :: qs)).bindsAt = BG at *
                  generalize hAL : (fun i => Tree.alike (nth (p :: ps) i) (nth (q :: qs) i) (a ++ BF i) (b ++ BG i)) = AL at *
                  have HAL := Lib.hid hAL
                  clear hks hAL hpq hll2
                  generalize p.atom = pa at *
                  generalize q.atom = qa at *
                  go_wp2_with fail
                  refine wp_region_held_drew (S := (fun W => W.cell? ⟨w.heap.size, 0, none⟩ = some (.string s) ∧ W.cell? ⟨w.heap.size, 1, none⟩ = some (.slice (some ⟨b1, f1, none⟩) lp c) ∧ W.cell? ⟨w.heap.size + 1, 0, none⟩ = some (.string s') ∧ W.cell? ⟨w.heap.size + 1, 1, none⟩ = some (.slice (some ⟨b2, f2, none⟩) lq c'))) (by kernel_rfl) ?_ (fun hHeld => ?_)
                  · (try dsimp only); exact HSS.out _ hw0
                  refine wpAnyH_take (i := 0) (v := ?_) (by simp only [List.getElem?_toArray, List.getElem?_cons_zero]; rfl) (by kernel_rfl) (by kernel_rfl) (by kernel_rfl) (by exact fun _ _ _ h => h) (Or.inl ⟨by rfl, ?_⟩) (by assumption) ?_
                  rotate_left
                  · intro W hSW; (try dsimp only at hSW); go_simp; (try with_reducible rfl)
                  (try simp only [Act.put, List.setIfInBounds_toArray, List.set_cons_zero, List.set_cons_succ])
                  refine wpAnyH_take (i := 2) (v := ?_) (by simp only [List.getElem?_toArray, List.getElem?_cons_zero, List.getElem?_cons_succ]; rfl) (by kernel_rfl) (by kernel_rfl) (by kernel_rfl) (by exact fun _ _ _ h => h) (Or.inl ⟨by rfl, ?_⟩) (by assumption) ?_
                  rotate_left
                  · intro W hSW; (try dsimp only at hSW); go_simp; (try with_reducible rfl)
                  (try simp only [Act.put, List.setIfInBounds_toArray, List.set_cons_zero, List.set_cons_succ])
                  refine wpAnyH_ready (rs := [1]) (by kernel_rfl) (by simp) ?_
                  refine AllReadyH.cons (by simp only [List.getElem?_toArray, List.getElem?_cons_zero, List.getElem?_cons_succ]; rfl) (fun K hK => ?_) AllReadyH.nil
                  go_simp
                  (go_at_call 32; with_reducible refine (HHF'.out _ (HBW.out _ hw0)).mono ?_; rintro e w3 ⟨rfl, hst3⟩; have hbw3 := HST.out _ _ hw0 hst3)
                  (try go_wp2_with fail)
                  refine hK.out _ _ ?_ (fun hHeld => ?_)
                  · (try dsimp only); (first | with_reducible exact HSS.out _ (by with_reducible assumption) | with_reducible exact HSS.out _ hw0)
                  clear hK K
                  (try simp only [Act.put, List.setIfInBounds_toArray, List.set_cons_zero, List.set_cons_succ])
                  refine wpAnyH_ready (rs := [3]) (by kernel_rfl) (by simp) ?_
                  refine AllReadyH.cons (by simp only [List.getElem?_toArray, List.getElem?_cons_zero, List.getElem?_cons_succ]; rfl) (fun K hK => ?_) AllReadyH.nil
                  go_simp
                  (go_at_call 32; with_reducible refine (HHG'.out _ (HBW.out _ hbw3)).mono ?_; rintro e w4 ⟨rfl, hst4⟩; have hbw4 := HST.out _ _ hbw3 hst4)
                  (try go_wp2_with fail)
                  refine hK.out _ _ ?_ (fun hHeld => ?_)
                  · (try dsimp only); (first | with_reducible exact HSS.out _ (by with_reducible assumption) | with_reducible exact HSS.out _ hw0)
                  clear hK K
                  (try simp only [Act.put, List.setIfInBounds_toArray, List.set_cons_zero, List.set_cons_succ])
                  refine wpAnyH_take (i := 4) (v := ?_) (by simp only [List.getElem?_toArray, List.getElem?_cons_zero, List.getElem?_cons_succ]; rfl) (by kernel_rfl) (by kernel_rfl) (by kernel_rfl) (by exact fun _ _ _ h => h) (Or.inl ⟨by rfl, ?_⟩) (by assumption) ?_
                  rotate_left
                  · intro W hSW; (try dsimp only at hSW); go_simp; (try with_reducible rfl)
                  (try simp only [Act.put, List.setIfInBounds_toArray, List.set_cons_zero, List.set_cons_succ])
                  refine wpAnyH_take (i := 5) (v := ?_) (by simp only [List.getElem?_toArray, List.getElem?_cons_zero, List.getElem?_cons_succ]; rfl) (by kernel_rfl) (by kernel_rfl) (by kernel_rfl) (by exact fun _ _ _ h => h) (Or.inl ⟨by rfl, ?_⟩) (by assumption) ?_
                  rotate_left
                  · intro W hSW; (try dsimp only at hSW); go_simp; (try with_reducible rfl)
                  (try simp only [Act.put, List.setIfInBounds_toArray, List.set_cons_zero, List.set_cons_succ])
                  refine wpAnyH_take (i := 6) (v := ?_) (by simp only [List.getElem?_toArray, List.getElem?_cons_zero, List.getElem?_cons_succ]; rfl) (by kernel_rfl) (by kernel_rfl) (by kernel_rfl) (by exact fun _ _ _ h => h) (Or.inl ⟨by rfl, ?_⟩) (by assumption) ?_
                  rotate_left
                  · intro W hSW; (try dsimp only at hSW); go_simp; (try with_reducible rfl)
                  (try simp only [Act.put, List.setIfInBounds_toArray, List.set_cons_zero, List.set_cons_succ])
                  refine wpAnyH_take (i := 7) (v := ?_) (by simp only [List.getElem?_toArray, List.getElem?_cons_zero, List.getElem?_cons_succ]; rfl) (by kernel_rfl) (by kernel_rfl) (by kernel_rfl) (by exact fun _ _ _ h => h) (Or.inl ⟨by rfl, ?_⟩) (by assumption) ?_
                  rotate_left
                  · intro W hSW; (try dsimp only at hSW); go_simp; (try with_reducible rfl)
                  (try simp only [Act.put, List.setIfInBounds_toArray, List.set_cons_zero, List.set_cons_succ])
                  refine wpAnyH_take (i := 8) (v := ?_) (by simp only [List.getElem?_toArray, List.getElem?_cons_zero, List.getElem?_cons_succ]; rfl) (by kernel_rfl) (by kernel_rfl) (by kernel_rfl) (by exact fun _ _ _ h => h) (Or.inl ⟨by rfl, ?_⟩) (by assumption) ?_
                  rotate_left
                  · intro W hSW; (try dsimp only at hSW); go_simp; (try with_reducible rfl)
                  (try simp only [Act.put, List.setIfInBounds_toArray, List.set_cons_zero, List.set_cons_succ])
                  refine wpAnyH_take (i := 9) (v := ?_) (by simp only [List.getElem?_toArray, List.getElem?_cons_zero, List.getElem?_cons_succ]; rfl) (by kernel_rfl) (by kernel_rfl) (by kernel_rfl) (by exact fun _ _ _ h => h) (Or.inl ⟨by rfl, ?_⟩) (by assumption) ?_
                  rotate_left
                  · intro W hSW; (try dsimp only at hSW); go_simp; (try with_reducible rfl)
                  (try simp only [Act.put, List.setIfInBounds_toArray, List.set_cons_zero, List.set_cons_succ])
                  refine wpAnyH_take (i := 10) (v := ?_) (by simp only [List.getElem?_toArray, List.getElem?_cons_zero, List.getElem?_cons_succ]; rfl) (by kernel_rfl) (by kernel_rfl) (by kernel_rfl) (by exact fun _ _ _ h => h) (Or.inl ⟨by rfl, ?_⟩) (by assumption) ?_
                  rotate_left
                  · intro W hSW; (try dsimp only at hSW); go_simp; (try with_reducible rfl)
                  (try simp only [Act.put, List.setIfInBounds_toArray, List.set_cons_zero, List.set_cons_succ])
                  refine wpAnyH_take (i := 11) (v := ?_) (by simp only [List.getElem?_toArray, List.getElem?_cons_zero, List.getElem?_cons_succ]; rfl) (by kernel_rfl) (by kernel_rfl) (by kernel_rfl) (by exact fun _ _ _ h => h) (Or.inl ⟨by rfl, ?_⟩) (by assumption) ?_
                  rotate_left
                  · intro W hSW; (try dsimp only at hSW); go_simp; (try with_reducible rfl)
                  (try simp only [Act.put, List.setIfInBounds_toArray, List.set_cons_zero, List.set_cons_succ])
                  refine wpAnyH_take (i := 12) (v := ?_) (by simp only [List.getElem?_toArray, List.getElem?_cons_zero, List.getElem?_cons_succ]; rfl) (by kernel_rfl) (by kernel_rfl) (by kernel_rfl) (by exact fun _ _ _ h => h) (Or.inl ⟨by rfl, ?_⟩) (by assumption) ?_
                  rotate_left
                  · intro W hSW; (try dsimp only at hSW); go_simp; (try with_reducible rfl)
                  (try simp only [Act.put, List.setIfInBounds_toArray, List.set_cons_zero, List.set_cons_succ])
                  refine wpAnyH_take (i := 13) (v := ?_) (by simp only [List.getElem?_toArray, List.getElem?_cons_zero, List.getElem?_cons_succ]; rfl) (by kernel_rfl) (by kernel_rfl) (by kernel_rfl) (by exact fun _ _ _ h => h) (Or.inl ⟨by rfl, ?_⟩) (by assumption) ?_
                  rotate_left
                  · intro W hSW; (try dsimp only at hSW); go_simp; (try with_reducible rfl)
                  (try simp only [Act.put, List.setIfInBounds_toArray, List.set_cons_zero, List.set_cons_succ])
                  refine wpAnyH_done (by kernel_rfl) ?_ _
                  have hbd4 : Below w2.heap.size w2 w4.drew := hbw4.drew
                  go_wp2_with fail
                  refine wp_region_held_drew (S := (fun W => W.cell? ⟨w.heap.size, 0, none⟩ = some (.string s) ∧ W.cell? ⟨w.heap.size, 1, none⟩ = some (.slice (some ⟨b1, f1, none⟩) lp c) ∧ W.cell? ⟨w.heap.size + 1, 0, none⟩ = some (.string s') ∧ W.cell? ⟨w.heap.size + 1, 1, none⟩ = some (.slice (some ⟨b2, f2, none⟩) lq c') ∧ W.cell? ⟨b1, f1 + 6, none⟩ = some (.string U) ∧ W.cell? ⟨b1, f1 + 6 + 1, none⟩ = some (.slice ou nu cu) ∧ W.cell? ⟨b2, f2 + 6, none⟩ = some (.string U') ∧ W.cell? ⟨b2, f2 + 6 + 1, none⟩ = some (.slice ou' nu' cu') ∧ W.cell? ⟨b1, f1 + 8, none⟩ = some (.string V) ∧ W.cell? ⟨b1, f1 + 8 + 1, none⟩ = some (.slice ov nv cv) ∧ W.cell? ⟨b2, f2 + 8, none⟩ = some (.string V') ∧ W.cell? ⟨b2, f2 + 8 + 1, none⟩ = some (.slice ov' nv' cv'))) (by kernel_rfl) ?_ (fun hHeld => ?_)
                  · (try dsimp only); exact HSP.out _ hbd4
                  refine wpAnyH_take (i := 0) (v := ?_) (by simp only [List.getElem?_toArray, List.getElem?_cons_zero]; rfl) (by kernel_rfl) (by kernel_rfl) (by kernel_rfl) (by exact fun _ _ _ h => h) (Or.inl ⟨by rfl, ?_⟩) (by assumption) ?_
                  rotate_left
                  · intro W hSW; (try dsimp only at hSW); go_simp; (try with_reducible rfl)
                  (try simp only [Act.put, List.setIfInBounds_toArray, List.set_cons_zero, List.set_cons_succ])
                  refine wpAnyH_ready (rs := [1]) (by kernel_rfl) (by simp) ?_
                  refine AllReadyH.cons (by simp only [List.getElem?_toArray, List.getElem?_cons_zero, List.getElem?_cons_succ]; rfl) (fun K hK => ?_) AllReadyH.nil
                  go_simp
                  (go_at_call 32; with_reducible refine (HHF'.out _ (HBW.out _ hbd4)).mono ?_; rintro e w5 ⟨rfl, hst5⟩; have hbw5 := HST.out _ _ hbd4 hst5)
                  (try go_wp2_with fail)
                  refine hK.out _ _ ?_ (fun hHeld => ?_)
                  · (try dsimp only); (with_reducible exact HSP.out _ (by with_reducible assumption))
                  clear hK K
                  (try simp only [Act.put, List.setIfInBounds_toArray, List.set_cons_zero, List.set_cons_succ])
                  refine wpAnyH_take (i := 2) (v := ?_) (by simp only [List.getElem?_toArray, List.getElem?_cons_zero, List.getElem?_cons_succ]; rfl) (by kernel_rfl) (by kernel_rfl) (by kernel_rfl) (by exact fun _ _ _ h => h) (Or.inl ⟨by rfl, ?_⟩) (by assumption) ?_
                  rotate_left
                  · intro W hSW; (try dsimp only at hSW); go_simp; (try with_reducible rfl)
                  (try simp only [Act.put, List.setIfInBounds_toArray, List.set_cons_zero, List.set_cons_succ])
                  refine wpAnyH_take (i := 3) (v := ?_) (by simp only [List.getElem?_toArray, List.getElem?_cons_zero, List.getElem?_cons_succ]; rfl) (by kernel_rfl) (by kernel_rfl) (by kernel_rfl) (by exact fun _ _ _ h => h) (Or.inl ⟨by rfl, ?_⟩) (by assumption) ?_
                  rotate_left
                  · intro W hSW; (try dsimp only at hSW); go_simp; (try with_reducible rfl)
                  (try simp only [Act.put, List.setIfInBounds_toArray, List.set_cons_zero, List.set_cons_succ])
                  refine wpAnyH_take (i := 4) (v := ?_) (by simp only [List.getElem?_toArray, List.getElem?_cons_zero, List.getElem?_cons_succ]; rfl) (by kernel_rfl) (by kernel_rfl) (by kernel_rfl) (by exact fun _ _ _ h => h) (Or.inl ⟨by rfl, ?_⟩) (by assumption) ?_
                  rotate_left
                  · intro W hSW; (try dsimp only at hSW); go_simp; (try with_reducible rfl)
                  (try simp only [Act.put, List.setIfInBounds_toArray, List.set_cons_zero, List.set_cons_succ])
                  refine wpAnyH_take (i := 5) (v := ?_) (by simp only [List.getElem?_toArray, List.getElem?_cons_zero, List.getElem?_cons_succ]; rfl) (by kernel_rfl) (by kernel_rfl) (by kernel_rfl) (by exact fun _ _ _ h => h) (Or.inl ⟨by rfl, ?_⟩) (by assumption) ?_
                  rotate_left
                  · intro W hSW; (try dsimp only at hSW); go_simp; (try with_reducible rfl)
                  (try simp only [Act.put, List.setIfInBounds_toArray, List.set_cons_zero, List.set_cons_succ])
                  refine wpAnyH_take (i := 6) (v := ?_) (by simp only [List.getElem?_toArray, List.getElem?_cons_zero, List.getElem?_cons_succ]; rfl) (by kernel_rfl) (by kernel_rfl) (by kernel_rfl) (by exact fun _ _ _ h => h) (Or.inl ⟨by rfl, ?_⟩) (by assumption) ?_
                  rotate_left
                  · intro W hSW; (try dsimp only at hSW); go_simp; (try with_reducible rfl)
                  (try simp only [Act.put, List.setIfInBounds_toArray, List.set_cons_zero, List.set_cons_succ])
                  refine wpAnyH_take (i := 7) (v := ?_) (by simp only [List.getElem?_toArray, List.getElem?_cons_zero, List.getElem?_cons_succ]; rfl) (by kernel_rfl) (by kernel_rfl) (by kernel_rfl) (by exact fun _ _ _ h => h) (Or.inl ⟨by rfl, ?_⟩) (by assumption) ?_
                  rotate_left
                  · intro W hSW; (try dsimp only at hSW); go_simp; (try with_reducible rfl)
                  (try simp only [Act.put, List.setIfInBounds_toArray, List.set_cons_zero, List.set_cons_succ])
                  refine wpAnyH_take (i := 8) (v := ?_) (by simp only [List.getElem?_toArray, List.getElem?_cons_zero, List.getElem?_cons_succ]; rfl) (by kernel_rfl) (by kernel_rfl) (by kernel_rfl) (by exact fun _ _ _ h => h) (Or.inl ⟨by rfl, ?_⟩) (by assumption) ?_
                  rotate_left
                  · intro W hSW; (try dsimp only at hSW); go_simp; (try with_reducible rfl)
                  (try simp only [Act.put, List.setIfInBounds_toArray, List.set_cons_zero, List.set_cons_succ])
                  refine wpAnyH_take (i := 9) (v := ?_) (by simp only [List.getElem?_toArray, List.getElem?_cons_zero, List.getElem?_cons_succ]; rfl) (by kernel_rfl) (by kernel_rfl) (by kernel_rfl) (by exact fun _ _ _ h => h) (Or.inl ⟨by rfl, ?_⟩) (by assumption) ?_
                  rotate_left
                  · intro W hSW; (try dsimp only at hSW); go_simp; (try with_reducible rfl)
                  (try simp only [Act.put, List.setIfInBounds_toArray, List.set_cons_zero, List.set_cons_succ])
                  refine wpAnyH_take (i := 10) (v := ?_) (by simp only [List.getElem?_toArray, List.getElem?_cons_zero, List.getElem?_cons_succ]; rfl) (by kernel_rfl) (by kernel_rfl) (by kernel_rfl) (by exact fun _ _ _ h => h) (Or.inl ⟨by rfl, ?_⟩) (by assumption) ?_
                  rotate_left
                  · intro W hSW; (try dsimp only at hSW); go_simp; (try with_reducible rfl)
                  (try simp only [Act.put, List.setIfInBounds_toArray, List.set_cons_zero, List.set_cons_succ])
                  refine wpAnyH_take (i := 11) (v := ?_) (by simp only [List.getElem?_toArray, List.getElem?_cons_zero, List.getElem?_cons_succ]; rfl) (by kernel_rfl) (by kernel_rfl) (by kernel_rfl) (by exact fun _ _ _ h => h) (Or.inl ⟨by rfl, ?_⟩) (by assumption) ?_
                  rotate_left
                  · intro W hSW; (try dsimp only at hSW); go_simp; (try with_reducible rfl)
                  (try simp only [Act.put, List.setIfInBounds_toArray, List.set_cons_zero, List.set_cons_succ])
                  refine wpAnyH_ready (rs := [12]) (by kernel_rfl) (by simp) ?_
                  refine AllReadyH.cons (by simp only [List.getElem?_toArray, List.getElem?_cons_zero, List.getElem?_cons_succ]; rfl) (fun K hK => ?_) AllReadyH.nil
                  go_simp
                  (go_at_call 63; with_reducible refine (HSU.out _ hbw5).mono ?_; rintro e w8 ⟨rfl, hst8⟩; have hbw8 := HST.out _ _ hbw5 hst8)
                  (try go_wp2_with fail)
                  refine hK.out _ _ ?_ (fun hHeld => ?_)
                  · (try dsimp only); (with_reducible exact HSP.out _ (by with_reducible assumption))
                  clear hK K
                  (try simp only [Act.put, List.setIfInBounds_toArray, List.set_cons_zero, List.set_cons_succ])
                  refine wpAnyH_take (i := 13) (v := ?_) (by simp only [List.getElem?_toArray, List.getElem?_cons_zero, List.getElem?_cons_succ]; rfl) (by kernel_rfl) (by kernel_rfl) (by kernel_rfl) (by exact fun _ _ _ h => h) (Or.inl ⟨by rfl, ?_⟩) (by assumption) ?_
                  rotate_left
                  · intro W hSW; (try dsimp only at hSW); go_simp; (try with_reducible rfl)
                  (try simp only [Act.put, List.setIfInBounds_toArray, List.set_cons_zero, List.set_cons_succ])
                  refine wpAnyH_take (i := 14) (v := ?_) (by simp only [List.getElem?_toArray, List.getElem?_cons_zero, List.getElem?_cons_succ]; rfl) (by kernel_rfl) (by kernel_rfl) (by kernel_rfl) (by exact fun _ _ _ h => h) (Or.inl ⟨by rfl, ?_⟩) (by assumption) ?_
                  rotate_left
                  · intro W hSW; (try dsimp only at hSW); go_simp; (try with_reducible rfl)
                  (try simp only [Act.put, List.setIfInBounds_toArray, List.set_cons_zero, List.set_cons_succ])
                  refine wpAnyH_take (i := 15) (v := ?_) (by simp only [List.getElem?_toArray, List.getElem?_cons_zero, List.getElem?_cons_succ]; rfl) (by kernel_rfl) (by kernel_rfl) (by kernel_rfl) (by exact fun _ _ _ h => h) (Or.inl ⟨by rfl, ?_⟩) (by assumption) ?_
                  rotate_left
                  · intro W hSW; (try dsimp only at hSW); go_simp; (try with_reducible rfl)
                  (try simp only [Act.put, List.setIfInBounds_toArray, List.set_cons_zero, List.set_cons_succ])
                  refine wpAnyH_take (i := 16) (v := ?_) (by simp only [List.getElem?_toArray, List.getElem?_cons_zero, List.getElem?_cons_succ]; rfl) (by kernel_rfl) (by kernel_rfl) (by kernel_rfl) (by exact fun _ _ _ h => h) (Or.inl ⟨by rfl, ?_⟩) (by assumption) ?_
                  rotate_left
                  · intro W hSW; (try dsimp only at hSW); go_simp; (try with_reducible rfl)
                  (try simp only [Act.put, List.setIfInBounds_toArray, List.set_cons_zero, List.set_cons_succ])
                  refine wpAnyH_take (i := 17) (v := ?_) (by simp only [List.getElem?_toArray, List.getElem?_cons_zero, List.getElem?_cons_succ]; rfl) (by kernel_rfl) (by kernel_rfl) (by kernel_rfl) (by exact fun _ _ _ h => h) (Or.inl ⟨by rfl, ?_⟩) (by assumption) ?_
                  rotate_left
                  · intro W hSW; (try dsimp only at hSW); go_simp; (try with_reducible rfl)
                  (try simp only [Act.put, List.setIfInBounds_toArray, List.set_cons_zero, List.set_cons_succ])
                  refine wpAnyH_take (i := 18) (v := ?_) (by simp only [List.getElem?_toArray, List.getElem?_cons_zero, List.getElem?_cons_succ]; rfl) (by kernel_rfl) (by kernel_rfl) (by kernel_rfl) (by exact fun _ _ _ h => h) (Or.inl ⟨by rfl, ?_⟩) (by assumption) ?_
                  rotate_left
                  · intro W hSW; (try dsimp only at hSW); go_simp; (try with_reducible rfl)
                  (try simp only [Act.put, List.setIfInBounds_toArray, List.set_cons_zero, List.set_cons_succ])
                  refine wpAnyH_take (i := 19) (v := ?_) (by simp only [List.getElem?_toArray, List.getElem?_cons_zero, List.getElem?_cons_succ]; rfl) (by kernel_rfl) (by kernel_rfl) (by kernel_rfl) (by exact fun _ _ _ h => h) (Or.inl ⟨by rfl, ?_⟩) (by assumption) ?_
                  rotate_left
                  · intro W hSW; (try dsimp only at hSW); go_simp; (try with_reducible rfl)
                  (try simp only [Act.put, List.setIfInBounds_toArray, List.set_cons_zero, List.set_cons_succ])
                  refine wpAnyH_take (i := 20) (v := ?_) (by simp only [List.getElem?_toArray, List.getElem?_cons_zero, List.getElem?_cons_succ]; rfl) (by kernel_rfl) (by kernel_rfl) (by kernel_rfl) (by exact fun _ _ _ h => h) (Or.inl ⟨by rfl, ?_⟩) (by assumption) ?_
                  rotate_left
                  · intro W hSW; (try dsimp only at hSW); go_simp; (try with_reducible rfl)
                  (try simp only [Act.put, List.setIfInBounds_toArray, List.set_cons_zero, List.set_cons_succ])
                  refine wpAnyH_take (i := 21) (v := ?_) (by simp only [List.getElem?_toArray, List.getElem?_cons_zero, List.getElem?_cons_succ]; rfl) (by kernel_rfl) (by kernel_rfl) (by kernel_rfl) (by exact fun _ _ _ h => h) (Or.inl ⟨by rfl, ?_⟩) (by assumption) ?_
                  rotate_left
                  · intro W hSW; (try dsimp only at hSW); go_simp; (try with_reducible rfl)
                  (try simp only [Act.put, List.setIfInBounds_toArray, List.set_cons_zero, List.set_cons_succ])
                  refine wpAnyH_take (i := 22) (v := ?_) (by simp only [List.getElem?_toArray, List.getElem?_cons_zero, List.getElem?_cons_succ]; rfl) (by kernel_rfl) (by kernel_rfl) (by kernel_rfl) (by exact fun _ _ _ h => h) (Or.inl ⟨by rfl, ?_⟩) (by assumption) ?_
                  rotate_left
                  · intro W hSW; (try dsimp only at hSW); go_simp; (try with_reducible rfl)
                  (try simp only [Act.put, List.setIfInBounds_toArray, List.set_cons_zero, List.set_cons_succ])
                  refine wpAnyH_ready (rs := [23]) (by kernel_rfl) (by simp) ?_
                  refine AllReadyH.cons (by simp only [List.getElem?_toArray, List.getElem?_cons_zero, List.getElem?_cons_succ]; rfl) (fun K hK => ?_) AllReadyH.nil
                  go_simp
                  (go_at_call 63; with_reducible refine (HSV.out _ hbw8).mono ?_; rintro e w9 ⟨rfl, hst9⟩; have hbw9 := HST.out _ _ hbw8 hst9)
                  (try go_wp2_with fail)
                  refine hK.out _ _ ?_ (fun hHeld => ?_)
                  · (try dsimp only); (with_reducible exact HSP.out _ (by with_reducible assumption))
                  clear hK K
                  (try simp only [Act.put, List.setIfInBounds_toArray, List.set_cons_zero, List.set_cons_succ])
                  refine wpAnyH_take (i := 24) (v := ?_) (by simp only [List.getElem?_toArray, List.getElem?_cons_zero, List.getElem?_cons_succ]; rfl) (by kernel_rfl) (by kernel_rfl) (by kernel_rfl) (by exact fun _ _ _ h => h) (Or.inl ⟨by rfl, ?_⟩) (by assumption) ?_
                  rotate_left
                  · intro W hSW; (try dsimp only at hSW); go_simp; (try with_reducible rfl)
                  (try simp only [Act.put, List.setIfInBounds_toArray, List.set_cons_zero, List.set_cons_succ])
                  refine wpAnyH_take (i := 25) (v := ?_) (by simp only [List.getElem?_toArray, List.getElem?_cons_zero, List.getElem?_cons_succ]; rfl) (by kernel_rfl) (by kernel_rfl) (by kernel_rfl) (by exact fun _ _ _ h => h) (Or.inl ⟨by rfl, ?_⟩) (by assumption) ?_
                  rotate_left
                  · intro W hSW; (try dsimp only at hSW); go_simp; (try with_reducible rfl)
                  (try simp only [Act.put, List.setIfInBounds_toArray, List.set_cons_zero, List.set_cons_succ])
                  refine wpAnyH_take (i := 26) (v := ?_) (by simp only [List.getElem?_toArray, List.getElem?_cons_zero, List.getElem?_cons_succ]; rfl) (by kernel_rfl) (by kernel_rfl) (by kernel_rfl) (by exact fun _ _ _ h => h) (Or.inl ⟨by rfl, ?_⟩) (by assumption) ?_
                  rotate_left
                  · intro W hSW; (try dsimp only at hSW); go_simp; (try with_reducible rfl)
                  (try simp only [Act.put, List.setIfInBounds_toArray, List.set_cons_zero, List.set_cons_succ])
                  refine wpAnyH_done (by kernel_rfl) ?_ _
                  have hbw6 := hbw9
                  -- the parts that are expressions
                  obtain ⟨y0, y1, y2, y3⟩ := HSS.out _ hbw6
                  go_wp2_with fail
                  refine (HKI.out _ (HBW.out _ hbw6)).mono ?_
                  rintro e w7 ⟨hb7, hks⟩
                  have hbw7 := HST.out _ _ hbw6 hb7
                  rcases hks with ⟨h, rfl⟩ | ⟨-, bk, ck, rfl, hbk, hck, hkc⟩
                  · exact absurd h HKN.out
                  obtain ⟨y0, y1, y2, y3⟩ := HSS.out _ hbw7
                  have hbk1 : bk < w7.heap.size := by
                    obtain ⟨i0, hi0⟩ : ∃ q, ks[0]? = some q := ⟨ks[0]'(List.length_pos_iff.2 HKN.out), by simp⟩
                    exact lt_of_cell (hkc 0 i0 hi0)
                  have HKC := Lib.hid hkc
                  have HB7 := Lib.hid hbw7
                  clear hkc hbk hb7
                  go_wp2
                  go_loopw [93] (fun iv wr => ∃ m : Nat, m ≤ ks.length ∧ iv = .int .i64 m ∧ Hid (∀ j i, j < m → ks[j]? = some i → AL i = true) ∧ Below w7.heap.size w7 wr) (fun iv _ => ks.length - (intOf iv).toNat)
                  case atStart => exact ⟨0, Nat.zero_le _, rfl, fun j i h => by omega, Below.refl _ _⟩
                  case round =>
                    obtain ⟨m, hm, rfl, HM, hbr⟩ := hrel
                    have hbr2 : Below w2.heap.size w2 wr := HB7.out.trans (hbr.mono HB7.out.size)
                    by_cases hlt : m < ks.length
                    · obtain ⟨i, hi⟩ : ∃ i, ks[m]? = some i := ⟨ks[m], by simp [hlt]⟩
                      obtain ⟨hik, hil⟩ := HKG.out m i hi
                      have hil' : i < lq := by omega
                      have hi0 : (0 : Int) ≤ (i : Int) := Int.natCast_nonneg _
                      have hi1 : (i : Int) < (lp : Int) := by omega
                      have hi2 : (i : Int) < (lq : Int) := by omega
                      have hcell : wr.cell? ⟨bk, m, none⟩ = some (.int .i64 (i : Int)) := (hbr.cell (p := ⟨bk, m, none⟩) hbk1).trans (HKC.out m i hi)
                      have hbrw := HBW.out _ hbr2
                      obtain ⟨z0, z1, z2, z3⟩ := HSS.out _ hbr2
                      obtain ⟨fi, hfi⟩ : ∃ x, (p :: ps)[i]? = some x := ⟨(p :: ps)[i]'(by have := HLP.out; simp only [List.length_cons] at *; omega), by simp⟩
                      obtain ⟨gi, hgi⟩ : ∃ x, (q :: qs)[i]? = some x := ⟨(q :: qs)[i]'(by have := HLQ.out; simp only [List.length_cons] at *; omega), by simp⟩
                      obtain ⟨of, nf, cf, hfx, hfy, hrf⟩ := (HC1.out _ hbrw).nth i (p := fi) (k := f1 + i * 2) hfi rfl
                      obtain ⟨og, ng, cg, hgx, hgy, hrg⟩ := (HC2.out _ hbrw).nth i (p := gi) (k := f2 + i * 2) hgi rfl
                      have hALi : AL i = fi.alike gi (a ++ BF i) (b ++ BG i) := by rw [← HAL.out]; show Tree.alike _ _ _ _ = _; rw [nth_of hfi, nth_of hgi]
                      have hlf := HLF.out i
                      have hlg := HLG.out i
                      have HIC : Hid (∀ (W : World) (o7 : Option Addr) (c7 : Nat) (o8 : Option Addr) (c8 : Nat), Below wr.heap.size wr W → Strs W o7 (a.length + (BF i).length) (a ++ BF i) → Strs W o8 (b.length + (BG i).length) (b ++ BG i) → Calls Try.prog 37 #[.agg #[.string fi.atom, .slice of nf cf], .agg #[.string gi.atom, .slice og ng cg], .slice o7 (a.length + (BF i).length) c7, .slice o8 (b.length + (BG i).length) c8] W fun e w' => e = .returned (.bool (AL i)) ∧ Stp W w') := fun W o7 c7 o8 c8 h1 h2 h3 => by
                        rw [hALi]
                        exact HIA.out i fi gi hik hfi hgi _ _ _ _ o7 o8 _ _ c7 c8 W (Rep.keep (Keeps.below h1) _ _ hrf) (Rep.keep (Keeps.below h1) _ _ hrg) h2 h3 (by rw [List.length_append]; omega) (by rw [List.length_append]; omega)
                      have HBFi : Hid (∀ W, Below w.heap.size w W → Calls Try.prog 66 #[.agg #[.string s, .slice (some ⟨b1, f1, none⟩) lp c], .int .i64 i] W fun e w' => ∃ o c, e = .returned (.slice o (BF i).length c) ∧ Strs w' o (BF i).length (BF i) ∧ Stp W w') := fun W h => HBF.out i W hik hil h
                      have HBGi : Hid (∀ W, Below w.heap.size w W → Calls Try.prog 66 #[.agg #[.string s', .slice (some ⟨b2, f2, none⟩) lq c'], .int .i64 i] W fun e w' => ∃ o c, e = .returned (.slice o (BG i).length c) ∧ Strs w' o (BG i).length (BG i) ∧ Stp W w') := fun W h => HBG.out i W hik hil h
                      have HCF : Hid (∀ (W : World) (o6 : Option Addr) (c6 g : Nat), Strs W oa na a → Strs W o6 (BF i).length (BF i) → W.cell? ⟨g, 0, none⟩ = some (.slice oa na ca) → W.cell? ⟨g, 1, none⟩ = some (.slice o6 (BF i).length c6) → Calls Try.prog 65 #[.slice (some ⟨g, 0, none⟩) 2 2] W fun e w' => ∃ o c, e = .returned (.slice o (a.length + (BF i).length) c) ∧ Strs w' o (a.length + (BF i).length) (a ++ BF i) ∧ Stp W w') := fun W o6 c6 g h1 h2 h3 h4 => by
                        have := rowR_stp (concat_any a (BF i) oa o6 na ca _ c6 g W h1 h2 (by have := h1.1; omega) h3 h4)
                        rwa [List.length_append] at this
                      have HCG : Hid (∀ (W : World) (o6 : Option Addr) (c6 g : Nat), Strs W ob nb b → Strs W o6 (BG i).length (BG i) → W.cell? ⟨g, 0, none⟩ = some (.slice ob nb cb) → W.cell? ⟨g, 1, none⟩ = some (.slice o6 (BG i).length c6) → Calls Try.prog 65 #[.slice (some ⟨g, 0, none⟩) 2 2] W fun e w' => ∃ o c, e = .returned (.slice o (b.length + (BG i).length) c) ∧ Strs w' o (b.length + (BG i).length) (b ++ BG i) ∧ Stp W w') := fun W o6 c6 g h1 h2 h3 h4 => by
                        have := rowR_stp (concat_any b (BG i) ob o6 nb cb _ c6 g W h1 h2 (by have := h1.1; omega) h3 h4)
                        rwa [List.length_append] at this
                      have HSL : Hid (∀ W, Below wr.heap.size wr W → W.cell? ⟨w.heap.size, 0, none⟩ = some (.string s) ∧ W.cell? ⟨w.heap.size, 1, none⟩ = some (.slice (some ⟨b1, f1, none⟩) lp c) ∧ W.cell? ⟨w.heap.size + 1, 0, none⟩ = some (.string s') ∧ W.cell? ⟨w.heap.size + 1, 1, none⟩ = some (.slice (some ⟨b2, f2, none⟩) lq c') ∧ W.cell? ⟨b1, f1 + i * 2, none⟩ = some (.string fi.atom) ∧ W.cell? ⟨b1, f1 + i * 2 + 1, none⟩ = some (.slice of nf cf) ∧ W.cell? ⟨b2, f2 + i * 2, none⟩ = some (.string gi.atom) ∧ W.cell? ⟨b2, f2 + i * 2 + 1, none⟩ = some (.slice og ng cg)) := fun W h =>
                        ⟨(h.cell (lt_of_cell z0)).trans z0, (h.cell (lt_of_cell z1)).trans z1, (h.cell (lt_of_cell z2)).trans z2, (h.cell (lt_of_cell z3)).trans z3, (h.cell (lt_of_cell hfx)).trans hfx, (h.cell (lt_of_cell hfy)).trans hfy, (h.cell (lt_of_cell hgx)).trans hgx, (h.cell (lt_of_cell hgy)).trans hgy⟩
                      have HBQ : Hid (∀ W, Below wr.heap.size wr W → Below w.heap.size w W) := fun W h => hbrw.trans (h.mono hbrw.size)
                      have HSQ : Hid (∀ W W', Below wr.heap.size wr W → Stp W W' → Below wr.heap.size wr W') := fun W W' h h' => h'.below h h.size
                      have hwd : Below wr.heap.size wr wr.drew := (Below.refl _ _).drew
                      have HM2 : Hid (AL i = true → ∀ j i', j < m + 1 → ks[j]? = some i' → AL i' = true) := fun h j i' hj hji => by
                        by_cases e : j = m
                        · subst e; rw [hi] at hji; cases hji; exact h
                        · exact HM.out j i' (by omega) hji
                      have HNO : Hid (AL i = false → ks.all AL = false) := fun h => by
                        rw [List.all_eq_false]; exact ⟨i, List.mem_of_getElem? hi, by rw [h]; simp⟩
                      have HBR := Lib.hid hbr
                      have HBR2 := Lib.hid hbrw
                      clear hfi hgi hrf hrg hALi hi hik hil hil' hlf hlg HIA HBF HBG HAL HM hbr hbr2
                      generalize AL i = al at *
                      generalize (BF i).length = nF at *
                      generalize (BG i).length = nG at *
                      generalize fi.atom = fa at *
                      generalize gi.atom = ga at *
                      cases al
                      · have HF := Lib.hid (HRK.out.trans (HNO.out rfl))
                        clear HNO HM2
                        go_wp2_with fail
                        go_region_held3 (fun W => W.cell? ⟨w.heap.size, 0, none⟩ = some (.string s) ∧ W.cell? ⟨w.heap.size, 1, none⟩ = some (.slice (some ⟨b1, f1, none⟩) lp c) ∧ W.cell? ⟨w.heap.size + 1, 0, none⟩ = some (.string s') ∧ W.cell? ⟨w.heap.size + 1, 1, none⟩ = some (.slice (some ⟨b2, f2, none⟩) lq c') ∧ W.cell? ⟨b1, f1 + i * 2, none⟩ = some (.string fa) ∧ W.cell? ⟨b1, f1 + i * 2 + 1, none⟩ = some (.slice of nf cf) ∧ W.cell? ⟨b2, f2 + i * 2, none⟩ = some (.string ga) ∧ W.cell? ⟨b2, f2 + i * 2 + 1, none⟩ = some (.slice og ng cg))
                          (first | with_reducible exact HSL.out _ (by with_reducible assumption) | with_reducible exact HSL.out _ hwd)
                          (first
                            | (go_at_call 66; with_reducible refine (HBFi.out _ (HBQ.out _ hwd)).mono ?_; rintro e wA ⟨oF, cF, rfl, hsF, hstA⟩; have hA := HSQ.out _ _ hwd hstA; have hAa := hA.alloc hA.size (.cells #[.slice oa na ca, .slice oF nF cF] 23); have hsF2 := strs_alloc (ob := (.cells #[.slice oa na ca, .slice oF nF cF] 23)) hsF)
                            | (go_at_call 65; with_reducible refine (HCF.out _ oF cF _ (HA.out _ (HBQ.out _ hAa)) hsF2 (two_new wA _ _ _).1 (two_new wA _ _ _).2).mono ?_; rintro e wB ⟨oCF, cCF, rfl, hsCF, hstB⟩; have hB := HSQ.out _ _ hAa hstB)
                            | (go_at_call 66; with_reducible refine (HBGi.out _ (HBQ.out _ hB)).mono ?_; rintro e wC ⟨oG, cG, rfl, hsG, hstC⟩; have hC := HSQ.out _ _ hB hstC; have hCa := hC.alloc hC.size (.cells #[.slice ob nb cb, .slice oG nG cG] 23); have hsG2 := strs_alloc (ob := (.cells #[.slice ob nb cb, .slice oG nG cG] 23)) hsG; have hsCF2 := strs_alloc (ob := (.cells #[.slice ob nb cb, .slice oG nG cG] 23)) (hstC.strs hsCF))
                            | (go_at_call 65; with_reducible refine (HCG.out _ oG cG _ (HB.out _ (HBQ.out _ hCa)) hsG2 (two_new wC _ _ _).1 (two_new wC _ _ _).2).mono ?_; rintro e wD ⟨oCG, cCG, rfl, hsCG, hstD⟩; have hD := HSQ.out _ _ hCa hstD; have hsCF3 := hstD.strs hsCF2)
                            | (go_at_call 37; with_reducible refine (HIC.out _ _ _ _ _ hD hsCF3 hsCG).mono ?_; rintro e wE ⟨rfl, hstE⟩; have hE := HSQ.out _ _ hD hstE))
                        go_wp2
                        go_ret
                        exact ⟨ret_bool HF.out.symm, HBQ.out _ hE⟩
                      · have HM3 := Lib.hid (HM2.out rfl)
                        clear HNO HM2
                        go_wp2_with fail
                        go_region_held3 (fun W => W.cell? ⟨w.heap.size, 0, none⟩ = some (.string s) ∧ W.cell? ⟨w.heap.size, 1, none⟩ = some (.slice (some ⟨b1, f1, none⟩) lp c) ∧ W.cell? ⟨w.heap.size + 1, 0, none⟩ = some (.string s') ∧ W.cell? ⟨w.heap.size + 1, 1, none⟩ = some (.slice (some ⟨b2, f2, none⟩) lq c') ∧ W.cell? ⟨b1, f1 + i * 2, none⟩ = some (.string fa) ∧ W.cell? ⟨b1, f1 + i * 2 + 1, none⟩ = some (.slice of nf cf) ∧ W.cell? ⟨b2, f2 + i * 2, none⟩ = some (.string ga) ∧ W.cell? ⟨b2, f2 + i * 2 + 1, none⟩ = some (.slice og ng cg))
                          (first | with_reducible exact HSL.out _ (by with_reducible assumption) | with_reducible exact HSL.out _ hwd)
                          (first
                            | (go_at_call 66; with_reducible refine (HBFi.out _ (HBQ.out _ hwd)).mono ?_; rintro e wA ⟨oF, cF, rfl, hsF, hstA⟩; have hA := HSQ.out _ _ hwd hstA; have hAa := hA.alloc hA.size (.cells #[.slice oa na ca, .slice oF nF cF] 23); have hsF2 := strs_alloc (ob := (.cells #[.slice oa na ca, .slice oF nF cF] 23)) hsF)
                            | (go_at_call 65; with_reducible refine (HCF.out _ oF cF _ (HA.out _ (HBQ.out _ hAa)) hsF2 (two_new wA _ _ _).1 (two_new wA _ _ _).2).mono ?_; rintro e wB ⟨oCF, cCF, rfl, hsCF, hstB⟩; have hB := HSQ.out _ _ hAa hstB)
                            | (go_at_call 66; with_reducible refine (HBGi.out _ (HBQ.out _ hB)).mono ?_; rintro e wC ⟨oG, cG, rfl, hsG, hstC⟩; have hC := HSQ.out _ _ hB hstC; have hCa := hC.alloc hC.size (.cells #[.slice ob nb cb, .slice oG nG cG] 23); have hsG2 := strs_alloc (ob := (.cells #[.slice ob nb cb, .slice oG nG cG] 23)) hsG; have hsCF2 := strs_alloc (ob := (.cells #[.slice ob nb cb, .slice oG nG cG] 23)) (hstC.strs hsCF))
                            | (go_at_call 65; with_reducible refine (HCG.out _ oG cG _ (HB.out _ (HBQ.out _ hCa)) hsG2 (two_new wC _ _ _).1 (two_new wC _ _ _).2).mono ?_; rintro e wD ⟨oCG, cCG, rfl, hsCG, hstD⟩; have hD := HSQ.out _ _ hCa hstD; have hsCF3 := hstD.strs hsCF2)
                            | (go_at_call 37; with_reducible refine (HIC.out _ _ _ _ _ hD hsCF3 hsCG).mono ?_; rintro e wE ⟨rfl, hstE⟩; have hE := HSQ.out _ _ hD hstE))
                        go_wp2
                        go_roundw
                        case rel => exact ⟨m + 1, by omega, by go_num, HM3, HBR.out.trans (hE.mono HBR.out.size)⟩
                        case measure => simp [intOf]; omega
                    · have HF : Hid ((Tree.node s (p :: ps)).alike (.node s' (q :: qs)) a b = true) := by
                        show _ = _
                        rw [HRK.out, List.all_eq_true]
                        intro i hi
                        obtain ⟨j, hj⟩ := List.getElem?_of_mem hi
                        exact HM.out j i (by have := (List.getElem?_eq_some_iff.1 hj).1; omega) hj
                      go_wp2
                      go_ret
                      exact ⟨ret_bool HF.out.symm, HBW.out _ hbr2⟩
            · have hb6 : (p.atom.toList == [102, 117, 110]) = false := by rw [Lib.toList_data]; simpa using hfun
              have HRK : Hid ((Tree.node s (p :: ps)).alike (.node s' (q :: qs)) a b = (kidsOf p.atom.data.toList lp).all fun i => Tree.alike (nth (p :: ps) i) (nth (q :: qs) i) (a ++ (Tree.node s (p :: ps)).bindsAt i) (b ++ (Tree.node s' (q :: qs)).bindsAt i)) := by
                show _ = _
                rw [HR2.out, decide_eq_false hfun]; rfl
              clear HR HR2 HEF HEG HIH HZ HGG hkz hfun
              generalize hks : kidsOf p.atom.data.toList lp = ks at *
              generalize (Tree.node s (p :: ps)).bindsAt = BF at *
              generalize (Tree.node s' (q :: qs)).bindsAt = BG at *
              generalize hAL : (fun i => Tree.alike (nth (p :: ps) i) (nth (q :: qs) i) (a ++ BF i) (b ++ BG i)) = AL at *
              have HAL := Lib.hid hAL
              clear hks hAL hpq hll2
              generalize p.atom = pa at *
              generalize q.atom = qa at *
              go_wp2_with fail
              refine wp_region_held_drew (S := (fun W => W.cell? ⟨w.heap.size, 0, none⟩ = some (.string s) ∧ W.cell? ⟨w.heap.size, 1, none⟩ = some (.slice (some ⟨b1, f1, none⟩) lp c) ∧ W.cell? ⟨w.heap.size + 1, 0, none⟩ = some (.string s') ∧ W.cell? ⟨w.heap.size + 1, 1, none⟩ = some (.slice (some ⟨b2, f2, none⟩) lq c'))) (by kernel_rfl) ?_ (fun hHeld => ?_)
              · (try dsimp only); exact HSS.out _ hw0
              refine wpAnyH_take (i := 0) (v := ?_) (by simp only [List.getElem?_toArray, List.getElem?_cons_zero]; rfl) (by kernel_rfl) (by kernel_rfl) (by kernel_rfl) (by exact fun _ _ _ h => h) (Or.inl ⟨by rfl, ?_⟩) (by assumption) ?_
              rotate_left
              · intro W hSW; (try dsimp only at hSW); go_simp; (try with_reducible rfl)
              (try simp only [Act.put, List.setIfInBounds_toArray, List.set_cons_zero, List.set_cons_succ])
              refine wpAnyH_take (i := 2) (v := ?_) (by simp only [List.getElem?_toArray, List.getElem?_cons_zero, List.getElem?_cons_succ]; rfl) (by kernel_rfl) (by kernel_rfl) (by kernel_rfl) (by exact fun _ _ _ h => h) (Or.inl ⟨by rfl, ?_⟩) (by assumption) ?_
              rotate_left
              · intro W hSW; (try dsimp only at hSW); go_simp; (try with_reducible rfl)
              (try simp only [Act.put, List.setIfInBounds_toArray, List.set_cons_zero, List.set_cons_succ])
              refine wpAnyH_ready (rs := [1]) (by kernel_rfl) (by simp) ?_
              refine AllReadyH.cons (by simp only [List.getElem?_toArray, List.getElem?_cons_zero, List.getElem?_cons_succ]; rfl) (fun K hK => ?_) AllReadyH.nil
              go_simp
              (go_at_call 32; with_reducible refine (HHF'.out _ (HBW.out _ hw0)).mono ?_; rintro e w3 ⟨rfl, hst3⟩; have hbw3 := HST.out _ _ hw0 hst3)
              (try go_wp2_with fail)
              refine hK.out _ _ ?_ (fun hHeld => ?_)
              · (try dsimp only); (first | with_reducible exact HSS.out _ (by with_reducible assumption) | with_reducible exact HSS.out _ hw0)
              clear hK K
              (try simp only [Act.put, List.setIfInBounds_toArray, List.set_cons_zero, List.set_cons_succ])
              refine wpAnyH_ready (rs := [3]) (by kernel_rfl) (by simp) ?_
              refine AllReadyH.cons (by simp only [List.getElem?_toArray, List.getElem?_cons_zero, List.getElem?_cons_succ]; rfl) (fun K hK => ?_) AllReadyH.nil
              go_simp
              (go_at_call 32; with_reducible refine (HHG'.out _ (HBW.out _ hbw3)).mono ?_; rintro e w4 ⟨rfl, hst4⟩; have hbw4 := HST.out _ _ hbw3 hst4)
              (try go_wp2_with fail)
              refine hK.out _ _ ?_ (fun hHeld => ?_)
              · (try dsimp only); (first | with_reducible exact HSS.out _ (by with_reducible assumption) | with_reducible exact HSS.out _ hw0)
              clear hK K
              (try simp only [Act.put, List.setIfInBounds_toArray, List.set_cons_zero, List.set_cons_succ])
              refine wpAnyH_take (i := 4) (v := ?_) (by simp only [List.getElem?_toArray, List.getElem?_cons_zero, List.getElem?_cons_succ]; rfl) (by kernel_rfl) (by kernel_rfl) (by kernel_rfl) (by exact fun _ _ _ h => h) (Or.inl ⟨by rfl, ?_⟩) (by assumption) ?_
              rotate_left
              · intro W hSW; (try dsimp only at hSW); go_simp; (try with_reducible rfl)
              (try simp only [Act.put, List.setIfInBounds_toArray, List.set_cons_zero, List.set_cons_succ])
              refine wpAnyH_take (i := 5) (v := ?_) (by simp only [List.getElem?_toArray, List.getElem?_cons_zero, List.getElem?_cons_succ]; rfl) (by kernel_rfl) (by kernel_rfl) (by kernel_rfl) (by exact fun _ _ _ h => h) (Or.inl ⟨by rfl, ?_⟩) (by assumption) ?_
              rotate_left
              · intro W hSW; (try dsimp only at hSW); go_simp; (try with_reducible rfl)
              (try simp only [Act.put, List.setIfInBounds_toArray, List.set_cons_zero, List.set_cons_succ])
              refine wpAnyH_take (i := 6) (v := ?_) (by simp only [List.getElem?_toArray, List.getElem?_cons_zero, List.getElem?_cons_succ]; rfl) (by kernel_rfl) (by kernel_rfl) (by kernel_rfl) (by exact fun _ _ _ h => h) (Or.inl ⟨by rfl, ?_⟩) (by assumption) ?_
              rotate_left
              · intro W hSW; (try dsimp only at hSW); go_simp; (try with_reducible rfl)
              (try simp only [Act.put, List.setIfInBounds_toArray, List.set_cons_zero, List.set_cons_succ])
              refine wpAnyH_take (i := 7) (v := ?_) (by simp only [List.getElem?_toArray, List.getElem?_cons_zero, List.getElem?_cons_succ]; rfl) (by kernel_rfl) (by kernel_rfl) (by kernel_rfl) (by exact fun _ _ _ h => h) (Or.inl ⟨by rfl, ?_⟩) (by assumption) ?_
              rotate_left
              · intro W hSW; (try dsimp only at hSW); go_simp; (try with_reducible rfl)
              (try simp only [Act.put, List.setIfInBounds_toArray, List.set_cons_zero, List.set_cons_succ])
              refine wpAnyH_take (i := 8) (v := ?_) (by simp only [List.getElem?_toArray, List.getElem?_cons_zero, List.getElem?_cons_succ]; rfl) (by kernel_rfl) (by kernel_rfl) (by kernel_rfl) (by exact fun _ _ _ h => h) (Or.inl ⟨by rfl, ?_⟩) (by assumption) ?_
              rotate_left
              · intro W hSW; (try dsimp only at hSW); go_simp; (try with_reducible rfl)
              (try simp only [Act.put, List.setIfInBounds_toArray, List.set_cons_zero, List.set_cons_succ])
              refine wpAnyH_take (i := 9) (v := ?_) (by simp only [List.getElem?_toArray, List.getElem?_cons_zero, List.getElem?_cons_succ]; rfl) (by kernel_rfl) (by kernel_rfl) (by kernel_rfl) (by exact fun _ _ _ h => h) (Or.inl ⟨by rfl, ?_⟩) (by assumption) ?_
              rotate_left
              · intro W hSW; (try dsimp only at hSW); go_simp; (try with_reducible rfl)
              (try simp only [Act.put, List.setIfInBounds_toArray, List.set_cons_zero, List.set_cons_succ])
              refine wpAnyH_take (i := 10) (v := ?_) (by simp only [List.getElem?_toArray, List.getElem?_cons_zero, List.getElem?_cons_succ]; rfl) (by kernel_rfl) (by kernel_rfl) (by kernel_rfl) (by exact fun _ _ _ h => h) (Or.inl ⟨by rfl, ?_⟩) (by assumption) ?_
              rotate_left
              · intro W hSW; (try dsimp only at hSW); go_simp; (try with_reducible rfl)
              (try simp only [Act.put, List.setIfInBounds_toArray, List.set_cons_zero, List.set_cons_succ])
              refine wpAnyH_take (i := 11) (v := ?_) (by simp only [List.getElem?_toArray, List.getElem?_cons_zero, List.getElem?_cons_succ]; rfl) (by kernel_rfl) (by kernel_rfl) (by kernel_rfl) (by exact fun _ _ _ h => h) (Or.inl ⟨by rfl, ?_⟩) (by assumption) ?_
              rotate_left
              · intro W hSW; (try dsimp only at hSW); go_simp; (try with_reducible rfl)
              (try simp only [Act.put, List.setIfInBounds_toArray, List.set_cons_zero, List.set_cons_succ])
              refine wpAnyH_take (i := 12) (v := ?_) (by simp only [List.getElem?_toArray, List.getElem?_cons_zero, List.getElem?_cons_succ]; rfl) (by kernel_rfl) (by kernel_rfl) (by kernel_rfl) (by exact fun _ _ _ h => h) (Or.inl ⟨by rfl, ?_⟩) (by assumption) ?_
              rotate_left
              · intro W hSW; (try dsimp only at hSW); go_simp; (try with_reducible rfl)
              (try simp only [Act.put, List.setIfInBounds_toArray, List.set_cons_zero, List.set_cons_succ])
              refine wpAnyH_take (i := 13) (v := ?_) (by simp only [List.getElem?_toArray, List.getElem?_cons_zero, List.getElem?_cons_succ]; rfl) (by kernel_rfl) (by kernel_rfl) (by kernel_rfl) (by exact fun _ _ _ h => h) (Or.inl ⟨by rfl, ?_⟩) (by assumption) ?_
              rotate_left
              · intro W hSW; (try dsimp only at hSW); go_simp; (try with_reducible rfl)
              (try simp only [Act.put, List.setIfInBounds_toArray, List.set_cons_zero, List.set_cons_succ])
              refine wpAnyH_done (by kernel_rfl) ?_ _
              obtain ⟨y0, y1, y2, y3⟩ := HSS.out _ hbw4
              have hbd4 : Below w2.heap.size w2 w4.drew := hbw4.drew
              go_wp2_with fail
              refine wp_region_held_drew (S := (fun W => W.cell? ⟨w.heap.size, 0, none⟩ = some (.string s) ∧ W.cell? ⟨w.heap.size, 1, none⟩ = some (.slice (some ⟨b1, f1, none⟩) lp c) ∧ W.cell? ⟨w.heap.size + 1, 0, none⟩ = some (.string s') ∧ W.cell? ⟨w.heap.size + 1, 1, none⟩ = some (.slice (some ⟨b2, f2, none⟩) lq c'))) (by kernel_rfl) ?_ (fun hHeld => ?_)
              · (try dsimp only); exact HSS.out _ hbd4
              refine wpAnyH_take (i := 0) (v := ?_) (by simp only [List.getElem?_toArray, List.getElem?_cons_zero]; rfl) (by kernel_rfl) (by kernel_rfl) (by kernel_rfl) (by exact fun _ _ _ h => h) (Or.inl ⟨by rfl, ?_⟩) (by assumption) ?_
              rotate_left
              · intro W hSW; (try dsimp only at hSW); go_simp; (try with_reducible rfl)
              (try simp only [Act.put, List.setIfInBounds_toArray, List.set_cons_zero, List.set_cons_succ])
              refine wpAnyH_ready (rs := [1]) (by kernel_rfl) (by simp) ?_
              refine AllReadyH.cons (by simp only [List.getElem?_toArray, List.getElem?_cons_zero, List.getElem?_cons_succ]; rfl) (fun K hK => ?_) AllReadyH.nil
              go_simp
              (go_at_call 32; with_reducible refine (HHF'.out _ (HBW.out _ hbd4)).mono ?_; rintro e w5 ⟨rfl, hst5⟩; have hbw5 := HST.out _ _ hbd4 hst5)
              (try go_wp2_with fail)
              refine hK.out _ _ ?_ (fun hHeld => ?_)
              · (try dsimp only); (first | with_reducible exact HSS.out _ (by with_reducible assumption) | with_reducible exact HSS.out _ hw0)
              clear hK K
              (try simp only [Act.put, List.setIfInBounds_toArray, List.set_cons_zero, List.set_cons_succ])
              refine wpAnyH_take (i := 2) (v := ?_) (by simp only [List.getElem?_toArray, List.getElem?_cons_zero, List.getElem?_cons_succ]; rfl) (by kernel_rfl) (by kernel_rfl) (by kernel_rfl) (by exact fun _ _ _ h => h) (Or.inl ⟨by rfl, ?_⟩) (by assumption) ?_
              rotate_left
              · intro W hSW; (try dsimp only at hSW); go_simp; (try with_reducible rfl)
              (try simp only [Act.put, List.setIfInBounds_toArray, List.set_cons_zero, List.set_cons_succ])
              refine wpAnyH_take (i := 3) (v := ?_) (by simp only [List.getElem?_toArray, List.getElem?_cons_zero, List.getElem?_cons_succ]; rfl) (by kernel_rfl) (by kernel_rfl) (by kernel_rfl) (by exact fun _ _ _ h => h) (Or.inl ⟨by rfl, ?_⟩) (by assumption) ?_
              rotate_left
              · intro W hSW; (try dsimp only at hSW); go_simp; (try with_reducible rfl)
              (try simp only [Act.put, List.setIfInBounds_toArray, List.set_cons_zero, List.set_cons_succ])
              refine wpAnyH_take (i := 4) (by simp only [List.getElem?_toArray, List.getElem?_cons_zero, List.getElem?_cons_succ]; rfl) (by kernel_rfl) (by kernel_rfl) (by kernel_rfl) (by exact fun _ _ _ h => h) (Or.inr ⟨by rfl, rfl⟩) (by assumption) ?_
              (try simp only [Act.put, List.setIfInBounds_toArray, List.set_cons_zero, List.set_cons_succ])
              refine wpAnyH_take (i := 5) (by simp only [List.getElem?_toArray, List.getElem?_cons_zero, List.getElem?_cons_succ]; rfl) (by kernel_rfl) (by kernel_rfl) (by kernel_rfl) (by exact fun _ _ _ h => h) (Or.inr ⟨by rfl, rfl⟩) (by assumption) ?_
              (try simp only [Act.put, List.setIfInBounds_toArray, List.set_cons_zero, List.set_cons_succ])
              refine wpAnyH_take (i := 6) (by simp only [List.getElem?_toArray, List.getElem?_cons_zero, List.getElem?_cons_succ]; rfl) (by kernel_rfl) (by kernel_rfl) (by kernel_rfl) (by exact fun _ _ _ h => h) (Or.inr ⟨by rfl, rfl⟩) (by assumption) ?_
              (try simp only [Act.put, List.setIfInBounds_toArray, List.set_cons_zero, List.set_cons_succ])
              refine wpAnyH_take (i := 7) (by simp only [List.getElem?_toArray, List.getElem?_cons_zero, List.getElem?_cons_succ]; rfl) (by kernel_rfl) (by kernel_rfl) (by kernel_rfl) (by exact fun _ _ _ h => h) (Or.inr ⟨by rfl, rfl⟩) (by assumption) ?_
              (try simp only [Act.put, List.setIfInBounds_toArray, List.set_cons_zero, List.set_cons_succ])
              refine wpAnyH_take (i := 8) (by simp only [List.getElem?_toArray, List.getElem?_cons_zero, List.getElem?_cons_succ]; rfl) (by kernel_rfl) (by kernel_rfl) (by kernel_rfl) (by exact fun _ _ _ h => h) (Or.inr ⟨by rfl, rfl⟩) (by assumption) ?_
              (try simp only [Act.put, List.setIfInBounds_toArray, List.set_cons_zero, List.set_cons_succ])
              refine wpAnyH_take (i := 9) (by simp only [List.getElem?_toArray, List.getElem?_cons_zero, List.getElem?_cons_succ]; rfl) (by kernel_rfl) (by kernel_rfl) (by kernel_rfl) (by exact fun _ _ _ h => h) (Or.inr ⟨by rfl, rfl⟩) (by assumption) ?_
              (try simp only [Act.put, List.setIfInBounds_toArray, List.set_cons_zero, List.set_cons_succ])
              refine wpAnyH_take (i := 10) (by simp only [List.getElem?_toArray, List.getElem?_cons_zero, List.getElem?_cons_succ]; rfl) (by kernel_rfl) (by kernel_rfl) (by kernel_rfl) (by exact fun _ _ _ h => h) (Or.inr ⟨by rfl, rfl⟩) (by assumption) ?_
              (try simp only [Act.put, List.setIfInBounds_toArray, List.set_cons_zero, List.set_cons_succ])
              refine wpAnyH_take (i := 11) (by simp only [List.getElem?_toArray, List.getElem?_cons_zero, List.getElem?_cons_succ]; rfl) (by kernel_rfl) (by kernel_rfl) (by kernel_rfl) (by exact fun _ _ _ h => h) (Or.inr ⟨by rfl, rfl⟩) (by assumption) ?_
              (try simp only [Act.put, List.setIfInBounds_toArray, List.set_cons_zero, List.set_cons_succ])
              refine wpAnyH_take (i := 12) (by simp only [List.getElem?_toArray, List.getElem?_cons_zero, List.getElem?_cons_succ]; rfl) (by kernel_rfl) (by kernel_rfl) (by kernel_rfl) (by exact fun _ _ _ h => h) (Or.inr ⟨by rfl, rfl⟩) (by assumption) ?_
              (try simp only [Act.put, List.setIfInBounds_toArray, List.set_cons_zero, List.set_cons_succ])
              refine wpAnyH_take (i := 13) (by simp only [List.getElem?_toArray, List.getElem?_cons_zero, List.getElem?_cons_succ]; rfl) (by kernel_rfl) (by kernel_rfl) (by kernel_rfl) (by exact fun _ _ _ h => h) (Or.inr ⟨by rfl, rfl⟩) (by assumption) ?_
              (try simp only [Act.put, List.setIfInBounds_toArray, List.set_cons_zero, List.set_cons_succ])
              refine wpAnyH_take (i := 14) (by simp only [List.getElem?_toArray, List.getElem?_cons_zero, List.getElem?_cons_succ]; rfl) (by kernel_rfl) (by kernel_rfl) (by kernel_rfl) (by exact fun _ _ _ h => h) (Or.inr ⟨by rfl, rfl⟩) (by assumption) ?_
              (try simp only [Act.put, List.setIfInBounds_toArray, List.set_cons_zero, List.set_cons_succ])
              refine wpAnyH_take (i := 15) (by simp only [List.getElem?_toArray, List.getElem?_cons_zero, List.getElem?_cons_succ]; rfl) (by kernel_rfl) (by kernel_rfl) (by kernel_rfl) (by exact fun _ _ _ h => h) (Or.inr ⟨by rfl, rfl⟩) (by assumption) ?_
              (try simp only [Act.put, List.setIfInBounds_toArray, List.set_cons_zero, List.set_cons_succ])
              refine wpAnyH_take (i := 16) (by simp only [List.getElem?_toArray, List.getElem?_cons_zero, List.getElem?_cons_succ]; rfl) (by kernel_rfl) (by kernel_rfl) (by kernel_rfl) (by exact fun _ _ _ h => h) (Or.inr ⟨by rfl, rfl⟩) (by assumption) ?_
              (try simp only [Act.put, List.setIfInBounds_toArray, List.set_cons_zero, List.set_cons_succ])
              refine wpAnyH_take (i := 17) (by simp only [List.getElem?_toArray, List.getElem?_cons_zero, List.getElem?_cons_succ]; rfl) (by kernel_rfl) (by kernel_rfl) (by kernel_rfl) (by exact fun _ _ _ h => h) (Or.inr ⟨by rfl, rfl⟩) (by assumption) ?_
              (try simp only [Act.put, List.setIfInBounds_toArray, List.set_cons_zero, List.set_cons_succ])
              refine wpAnyH_take (i := 18) (by simp only [List.getElem?_toArray, List.getElem?_cons_zero, List.getElem?_cons_succ]; rfl) (by kernel_rfl) (by kernel_rfl) (by kernel_rfl) (by exact fun _ _ _ h => h) (Or.inr ⟨by rfl, rfl⟩) (by assumption) ?_
              (try simp only [Act.put, List.setIfInBounds_toArray, List.set_cons_zero, List.set_cons_succ])
              refine wpAnyH_take (i := 19) (by simp only [List.getElem?_toArray, List.getElem?_cons_zero, List.getElem?_cons_succ]; rfl) (by kernel_rfl) (by kernel_rfl) (by kernel_rfl) (by exact fun _ _ _ h => h) (Or.inr ⟨by rfl, rfl⟩) (by assumption) ?_
              (try simp only [Act.put, List.setIfInBounds_toArray, List.set_cons_zero, List.set_cons_succ])
              refine wpAnyH_take (i := 20) (by simp only [List.getElem?_toArray, List.getElem?_cons_zero, List.getElem?_cons_succ]; rfl) (by kernel_rfl) (by kernel_rfl) (by kernel_rfl) (by exact fun _ _ _ h => h) (Or.inr ⟨by rfl, rfl⟩) (by assumption) ?_
              (try simp only [Act.put, List.setIfInBounds_toArray, List.set_cons_zero, List.set_cons_succ])
              refine wpAnyH_take (i := 21) (by simp only [List.getElem?_toArray, List.getElem?_cons_zero, List.getElem?_cons_succ]; rfl) (by kernel_rfl) (by kernel_rfl) (by kernel_rfl) (by exact fun _ _ _ h => h) (Or.inr ⟨by rfl, rfl⟩) (by assumption) ?_
              (try simp only [Act.put, List.setIfInBounds_toArray, List.set_cons_zero, List.set_cons_succ])
              refine wpAnyH_take (i := 22) (by simp only [List.getElem?_toArray, List.getElem?_cons_zero, List.getElem?_cons_succ]; rfl) (by kernel_rfl) (by kernel_rfl) (by kernel_rfl) (by exact fun _ _ _ h => h) (Or.inr ⟨by rfl, rfl⟩) (by assumption) ?_
              (try simp only [Act.put, List.setIfInBounds_toArray, List.set_cons_zero, List.set_cons_succ])
              refine wpAnyH_take (i := 23) (by simp only [List.getElem?_toArray, List.getElem?_cons_zero, List.getElem?_cons_succ]; rfl) (by kernel_rfl) (by kernel_rfl) (by kernel_rfl) (by exact fun _ _ _ h => h) (Or.inr ⟨by rfl, rfl⟩) (by assumption) ?_
              (try simp only [Act.put, List.setIfInBounds_toArray, List.set_cons_zero, List.set_cons_succ])
              refine wpAnyH_take (i := 24) (by simp only [List.getElem?_toArray, List.getElem?_cons_zero, List.getElem?_cons_succ]; rfl) (by kernel_rfl) (by kernel_rfl) (by kernel_rfl) (by exact fun _ _ _ h => h) (Or.inr ⟨by rfl, rfl⟩) (by assumption) ?_
              (try simp only [Act.put, List.setIfInBounds_toArray, List.set_cons_zero, List.set_cons_succ])
              refine wpAnyH_take (i := 25) (by simp only [List.getElem?_toArray, List.getElem?_cons_zero, List.getElem?_cons_succ]; rfl) (by kernel_rfl) (by kernel_rfl) (by kernel_rfl) (by exact fun _ _ _ h => h) (Or.inr ⟨by rfl, rfl⟩) (by assumption) ?_
              (try simp only [Act.put, List.setIfInBounds_toArray, List.set_cons_zero, List.set_cons_succ])
              refine wpAnyH_take (i := 26) (v := ?_) (by simp only [List.getElem?_toArray, List.getElem?_cons_zero, List.getElem?_cons_succ]; rfl) (by kernel_rfl) (by kernel_rfl) (by kernel_rfl) (by exact fun _ _ _ h => h) (Or.inl ⟨by rfl, ?_⟩) (by assumption) ?_
              rotate_left
              · intro W hSW; (try dsimp only at hSW); go_simp; (try with_reducible rfl)
              (try simp only [Act.put, List.setIfInBounds_toArray, List.set_cons_zero, List.set_cons_succ])
              refine wpAnyH_done (by kernel_rfl) ?_ _
              have hbw6 := hbw5
              -- the parts that are expressions
              obtain ⟨y0, y1, y2, y3⟩ := HSS.out _ hbw6
              go_wp2_with fail
              refine (HKI.out _ (HBW.out _ hbw6)).mono ?_
              rintro e w7 ⟨hb7, hks⟩
              have hbw7 := HST.out _ _ hbw6 hb7
              rcases hks with ⟨h, rfl⟩ | ⟨-, bk, ck, rfl, hbk, hck, hkc⟩
              · exact absurd h HKN.out
              obtain ⟨y0, y1, y2, y3⟩ := HSS.out _ hbw7
              have hbk1 : bk < w7.heap.size := by
                obtain ⟨i0, hi0⟩ : ∃ q, ks[0]? = some q := ⟨ks[0]'(List.length_pos_iff.2 HKN.out), by simp⟩
                exact lt_of_cell (hkc 0 i0 hi0)
              have HKC := Lib.hid hkc
              have HB7 := Lib.hid hbw7
              clear hkc hbk hb7
              go_wp2
              go_loopw [93] (fun iv wr => ∃ m : Nat, m ≤ ks.length ∧ iv = .int .i64 m ∧ Hid (∀ j i, j < m → ks[j]? = some i → AL i = true) ∧ Below w7.heap.size w7 wr) (fun iv _ => ks.length - (intOf iv).toNat)
              case atStart => exact ⟨0, Nat.zero_le _, rfl, fun j i h => by omega, Below.refl _ _⟩
              case round =>
                obtain ⟨m, hm, rfl, HM, hbr⟩ := hrel
                have hbr2 : Below w2.heap.size w2 wr := HB7.out.trans (hbr.mono HB7.out.size)
                by_cases hlt : m < ks.length
                · obtain ⟨i, hi⟩ : ∃ i, ks[m]? = some i := ⟨ks[m], by simp [hlt]⟩
                  obtain ⟨hik, hil⟩ := HKG.out m i hi
                  have hil' : i < lq := by omega
                  have hi0 : (0 : Int) ≤ (i : Int) := Int.natCast_nonneg _
                  have hi1 : (i : Int) < (lp : Int) := by omega
                  have hi2 : (i : Int) < (lq : Int) := by omega
                  have hcell : wr.cell? ⟨bk, m, none⟩ = some (.int .i64 (i : Int)) := (hbr.cell (p := ⟨bk, m, none⟩) hbk1).trans (HKC.out m i hi)
                  have hbrw := HBW.out _ hbr2
                  obtain ⟨z0, z1, z2, z3⟩ := HSS.out _ hbr2
                  obtain ⟨fi, hfi⟩ : ∃ x, (p :: ps)[i]? = some x := ⟨(p :: ps)[i]'(by have := HLP.out; simp only [List.length_cons] at *; omega), by simp⟩
                  obtain ⟨gi, hgi⟩ : ∃ x, (q :: qs)[i]? = some x := ⟨(q :: qs)[i]'(by have := HLQ.out; simp only [List.length_cons] at *; omega), by simp⟩
                  obtain ⟨of, nf, cf, hfx, hfy, hrf⟩ := (HC1.out _ hbrw).nth i (p := fi) (k := f1 + i * 2) hfi rfl
                  obtain ⟨og, ng, cg, hgx, hgy, hrg⟩ := (HC2.out _ hbrw).nth i (p := gi) (k := f2 + i * 2) hgi rfl
                  have hALi : AL i = fi.alike gi (a ++ BF i) (b ++ BG i) := by rw [← HAL.out]; show Tree.alike _ _ _ _ = _; rw [nth_of hfi, nth_of hgi]
                  have hlf := HLF.out i
                  have hlg := HLG.out i
                  have HIC : Hid (∀ (W : World) (o7 : Option Addr) (c7 : Nat) (o8 : Option Addr) (c8 : Nat), Below wr.heap.size wr W → Strs W o7 (a.length + (BF i).length) (a ++ BF i) → Strs W o8 (b.length + (BG i).length) (b ++ BG i) → Calls Try.prog 37 #[.agg #[.string fi.atom, .slice of nf cf], .agg #[.string gi.atom, .slice og ng cg], .slice o7 (a.length + (BF i).length) c7, .slice o8 (b.length + (BG i).length) c8] W fun e w' => e = .returned (.bool (AL i)) ∧ Stp W w') := fun W o7 c7 o8 c8 h1 h2 h3 => by
                    rw [hALi]
                    exact HIA.out i fi gi hik hfi hgi _ _ _ _ o7 o8 _ _ c7 c8 W (Rep.keep (Keeps.below h1) _ _ hrf) (Rep.keep (Keeps.below h1) _ _ hrg) h2 h3 (by rw [List.length_append]; omega) (by rw [List.length_append]; omega)
                  have HBFi : Hid (∀ W, Below w.heap.size w W → Calls Try.prog 66 #[.agg #[.string s, .slice (some ⟨b1, f1, none⟩) lp c], .int .i64 i] W fun e w' => ∃ o c, e = .returned (.slice o (BF i).length c) ∧ Strs w' o (BF i).length (BF i) ∧ Stp W w') := fun W h => HBF.out i W hik hil h
                  have HBGi : Hid (∀ W, Below w.heap.size w W → Calls Try.prog 66 #[.agg #[.string s', .slice (some ⟨b2, f2, none⟩) lq c'], .int .i64 i] W fun e w' => ∃ o c, e = .returned (.slice o (BG i).length c) ∧ Strs w' o (BG i).length (BG i) ∧ Stp W w') := fun W h => HBG.out i W hik hil h
                  have HCF : Hid (∀ (W : World) (o6 : Option Addr) (c6 g : Nat), Strs W oa na a → Strs W o6 (BF i).length (BF i) → W.cell? ⟨g, 0, none⟩ = some (.slice oa na ca) → W.cell? ⟨g, 1, none⟩ = some (.slice o6 (BF i).length c6) → Calls Try.prog 65 #[.slice (some ⟨g, 0, none⟩) 2 2] W fun e w' => ∃ o c, e = .returned (.slice o (a.length + (BF i).length) c) ∧ Strs w' o (a.length + (BF i).length) (a ++ BF i) ∧ Stp W w') := fun W o6 c6 g h1 h2 h3 h4 => by
                    have := rowR_stp (concat_any a (BF i) oa o6 na ca _ c6 g W h1 h2 (by have := h1.1; omega) h3 h4)
                    rwa [List.length_append] at this
                  have HCG : Hid (∀ (W : World) (o6 : Option Addr) (c6 g : Nat), Strs W ob nb b → Strs W o6 (BG i).length (BG i) → W.cell? ⟨g, 0, none⟩ = some (.slice ob nb cb) → W.cell? ⟨g, 1, none⟩ = some (.slice o6 (BG i).length c6) → Calls Try.prog 65 #[.slice (some ⟨g, 0, none⟩) 2 2] W fun e w' => ∃ o c, e = .returned (.slice o (b.length + (BG i).length) c) ∧ Strs w' o (b.length + (BG i).length) (b ++ BG i) ∧ Stp W w') := fun W o6 c6 g h1 h2 h3 h4 => by
                    have := rowR_stp (concat_any b (BG i) ob o6 nb cb _ c6 g W h1 h2 (by have := h1.1; omega) h3 h4)
                    rwa [List.length_append] at this
                  have HSL : Hid (∀ W, Below wr.heap.size wr W → W.cell? ⟨w.heap.size, 0, none⟩ = some (.string s) ∧ W.cell? ⟨w.heap.size, 1, none⟩ = some (.slice (some ⟨b1, f1, none⟩) lp c) ∧ W.cell? ⟨w.heap.size + 1, 0, none⟩ = some (.string s') ∧ W.cell? ⟨w.heap.size + 1, 1, none⟩ = some (.slice (some ⟨b2, f2, none⟩) lq c') ∧ W.cell? ⟨b1, f1 + i * 2, none⟩ = some (.string fi.atom) ∧ W.cell? ⟨b1, f1 + i * 2 + 1, none⟩ = some (.slice of nf cf) ∧ W.cell? ⟨b2, f2 + i * 2, none⟩ = some (.string gi.atom) ∧ W.cell? ⟨b2, f2 + i * 2 + 1, none⟩ = some (.slice og ng cg)) := fun W h =>
                    ⟨(h.cell (lt_of_cell z0)).trans z0, (h.cell (lt_of_cell z1)).trans z1, (h.cell (lt_of_cell z2)).trans z2, (h.cell (lt_of_cell z3)).trans z3, (h.cell (lt_of_cell hfx)).trans hfx, (h.cell (lt_of_cell hfy)).trans hfy, (h.cell (lt_of_cell hgx)).trans hgx, (h.cell (lt_of_cell hgy)).trans hgy⟩
                  have HBQ : Hid (∀ W, Below wr.heap.size wr W → Below w.heap.size w W) := fun W h => hbrw.trans (h.mono hbrw.size)
                  have HSQ : Hid (∀ W W', Below wr.heap.size wr W → Stp W W' → Below wr.heap.size wr W') := fun W W' h h' => h'.below h h.size
                  have hwd : Below wr.heap.size wr wr.drew := (Below.refl _ _).drew
                  have HM2 : Hid (AL i = true → ∀ j i', j < m + 1 → ks[j]? = some i' → AL i' = true) := fun h j i' hj hji => by
                    by_cases e : j = m
                    · subst e; rw [hi] at hji; cases hji; exact h
                    · exact HM.out j i' (by omega) hji
                  have HNO : Hid (AL i = false → ks.all AL = false) := fun h => by
                    rw [List.all_eq_false]; exact ⟨i, List.mem_of_getElem? hi, by rw [h]; simp⟩
                  have HBR := Lib.hid hbr
                  have HBR2 := Lib.hid hbrw
                  clear hfi hgi hrf hrg hALi hi hik hil hil' hlf hlg HIA HBF HBG HAL HM hbr hbr2
                  generalize AL i = al at *
                  generalize (BF i).length = nF at *
                  generalize (BG i).length = nG at *
                  generalize fi.atom = fa at *
                  generalize gi.atom = ga at *
                  cases al
                  · have HF := Lib.hid (HRK.out.trans (HNO.out rfl))
                    clear HNO HM2
                    go_wp2_with fail
                    go_region_held3 (fun W => W.cell? ⟨w.heap.size, 0, none⟩ = some (.string s) ∧ W.cell? ⟨w.heap.size, 1, none⟩ = some (.slice (some ⟨b1, f1, none⟩) lp c) ∧ W.cell? ⟨w.heap.size + 1, 0, none⟩ = some (.string s') ∧ W.cell? ⟨w.heap.size + 1, 1, none⟩ = some (.slice (some ⟨b2, f2, none⟩) lq c') ∧ W.cell? ⟨b1, f1 + i * 2, none⟩ = some (.string fa) ∧ W.cell? ⟨b1, f1 + i * 2 + 1, none⟩ = some (.slice of nf cf) ∧ W.cell? ⟨b2, f2 + i * 2, none⟩ = some (.string ga) ∧ W.cell? ⟨b2, f2 + i * 2 + 1, none⟩ = some (.slice og ng cg))
                      (first | with_reducible exact HSL.out _ (by with_reducible assumption) | with_reducible exact HSL.out _ hwd)
                      (first
                        | (go_at_call 66; with_reducible refine (HBFi.out _ (HBQ.out _ hwd)).mono ?_; rintro e wA ⟨oF, cF, rfl, hsF, hstA⟩; have hA := HSQ.out _ _ hwd hstA; have hAa := hA.alloc hA.size (.cells #[.slice oa na ca, .slice oF nF cF] 23); have hsF2 := strs_alloc (ob := (.cells #[.slice oa na ca, .slice oF nF cF] 23)) hsF)
                        | (go_at_call 65; with_reducible refine (HCF.out _ oF cF _ (HA.out _ (HBQ.out _ hAa)) hsF2 (two_new wA _ _ _).1 (two_new wA _ _ _).2).mono ?_; rintro e wB ⟨oCF, cCF, rfl, hsCF, hstB⟩; have hB := HSQ.out _ _ hAa hstB)
                        | (go_at_call 66; with_reducible refine (HBGi.out _ (HBQ.out _ hB)).mono ?_; rintro e wC ⟨oG, cG, rfl, hsG, hstC⟩; have hC := HSQ.out _ _ hB hstC; have hCa := hC.alloc hC.size (.cells #[.slice ob nb cb, .slice oG nG cG] 23); have hsG2 := strs_alloc (ob := (.cells #[.slice ob nb cb, .slice oG nG cG] 23)) hsG; have hsCF2 := strs_alloc (ob := (.cells #[.slice ob nb cb, .slice oG nG cG] 23)) (hstC.strs hsCF))
                        | (go_at_call 65; with_reducible refine (HCG.out _ oG cG _ (HB.out _ (HBQ.out _ hCa)) hsG2 (two_new wC _ _ _).1 (two_new wC _ _ _).2).mono ?_; rintro e wD ⟨oCG, cCG, rfl, hsCG, hstD⟩; have hD := HSQ.out _ _ hCa hstD; have hsCF3 := hstD.strs hsCF2)
                        | (go_at_call 37; with_reducible refine (HIC.out _ _ _ _ _ hD hsCF3 hsCG).mono ?_; rintro e wE ⟨rfl, hstE⟩; have hE := HSQ.out _ _ hD hstE))
                    go_wp2
                    go_ret
                    exact ⟨ret_bool HF.out.symm, HBQ.out _ hE⟩
                  · have HM3 := Lib.hid (HM2.out rfl)
                    clear HNO HM2
                    go_wp2_with fail
                    go_region_held3 (fun W => W.cell? ⟨w.heap.size, 0, none⟩ = some (.string s) ∧ W.cell? ⟨w.heap.size, 1, none⟩ = some (.slice (some ⟨b1, f1, none⟩) lp c) ∧ W.cell? ⟨w.heap.size + 1, 0, none⟩ = some (.string s') ∧ W.cell? ⟨w.heap.size + 1, 1, none⟩ = some (.slice (some ⟨b2, f2, none⟩) lq c') ∧ W.cell? ⟨b1, f1 + i * 2, none⟩ = some (.string fa) ∧ W.cell? ⟨b1, f1 + i * 2 + 1, none⟩ = some (.slice of nf cf) ∧ W.cell? ⟨b2, f2 + i * 2, none⟩ = some (.string ga) ∧ W.cell? ⟨b2, f2 + i * 2 + 1, none⟩ = some (.slice og ng cg))
                      (first | with_reducible exact HSL.out _ (by with_reducible assumption) | with_reducible exact HSL.out _ hwd)
                      (first
                        | (go_at_call 66; with_reducible refine (HBFi.out _ (HBQ.out _ hwd)).mono ?_; rintro e wA ⟨oF, cF, rfl, hsF, hstA⟩; have hA := HSQ.out _ _ hwd hstA; have hAa := hA.alloc hA.size (.cells #[.slice oa na ca, .slice oF nF cF] 23); have hsF2 := strs_alloc (ob := (.cells #[.slice oa na ca, .slice oF nF cF] 23)) hsF)
                        | (go_at_call 65; with_reducible refine (HCF.out _ oF cF _ (HA.out _ (HBQ.out _ hAa)) hsF2 (two_new wA _ _ _).1 (two_new wA _ _ _).2).mono ?_; rintro e wB ⟨oCF, cCF, rfl, hsCF, hstB⟩; have hB := HSQ.out _ _ hAa hstB)
                        | (go_at_call 66; with_reducible refine (HBGi.out _ (HBQ.out _ hB)).mono ?_; rintro e wC ⟨oG, cG, rfl, hsG, hstC⟩; have hC := HSQ.out _ _ hB hstC; have hCa := hC.alloc hC.size (.cells #[.slice ob nb cb, .slice oG nG cG] 23); have hsG2 := strs_alloc (ob := (.cells #[.slice ob nb cb, .slice oG nG cG] 23)) hsG; have hsCF2 := strs_alloc (ob := (.cells #[.slice ob nb cb, .slice oG nG cG] 23)) (hstC.strs hsCF))
                        | (go_at_call 65; with_reducible refine (HCG.out _ oG cG _ (HB.out _ (HBQ.out _ hCa)) hsG2 (two_new wC _ _ _).1 (two_new wC _ _ _).2).mono ?_; rintro e wD ⟨oCG, cCG, rfl, hsCG, hstD⟩; have hD := HSQ.out _ _ hCa hstD; have hsCF3 := hstD.strs hsCF2)
                        | (go_at_call 37; with_reducible refine (HIC.out _ _ _ _ _ hD hsCF3 hsCG).mono ?_; rintro e wE ⟨rfl, hstE⟩; have hE := HSQ.out _ _ hD hstE))
                    go_wp2
                    go_roundw
                    case rel => exact ⟨m + 1, by omega, by go_num, HM3, HBR.out.trans (hE.mono HBR.out.size)⟩
                    case measure => simp [intOf]; omega
                · have HF : Hid ((Tree.node s (p :: ps)).alike (.node s' (q :: qs)) a b = true) := by
                    show _ = _
                    rw [HRK.out, List.all_eq_true]
                    intro i hi
                    obtain ⟨j, hj⟩ := List.getElem?_of_mem hi
                    exact HM.out j i (by have := (List.getElem?_eq_some_iff.1 hj).1; omega) hj
                  go_wp2
                  go_ret
                  exact ⟨ret_bool HF.out.symm, HBW.out _ hbr2⟩
          · have HF : Hid ((Tree.node s (p :: ps)).alike (.node s' (q :: qs)) a b = false) := by show _ = _; rw [HR.out, decide_eq_false hll2]; simp
            have hb3 : ((lp : Int) != (lq : Int)) = true := by simp; omega
            have hb4 : ((lp : Int) == (lq : Int)) = false := by simp; omega
            clear HR HEF HEG HIH HKI HC1 HC2 hpq hll2
            generalize p.atom = pa at *
            generalize q.atom = qa at *
            go_wp2_with fail
            refine wp_region_held_drew (S := (fun W => W.cell? ⟨w.heap.size, 0, none⟩ = some (.string s) ∧ W.cell? ⟨w.heap.size, 1, none⟩ = some (.slice (some ⟨b1, f1, none⟩) lp c) ∧ W.cell? ⟨w.heap.size + 1, 0, none⟩ = some (.string s') ∧ W.cell? ⟨w.heap.size + 1, 1, none⟩ = some (.slice (some ⟨b2, f2, none⟩) lq c'))) (by kernel_rfl) ?_ (fun hHeld => ?_)
            · (try dsimp only); exact HSS.out _ hw0
            refine wpAnyH_take (i := 0) (v := ?_) (by simp only [List.getElem?_toArray, List.getElem?_cons_zero]; rfl) (by kernel_rfl) (by kernel_rfl) (by kernel_rfl) (by exact fun _ _ _ h => h) (Or.inl ⟨by rfl, ?_⟩) (by assumption) ?_
            rotate_left
            · intro W hSW; (try dsimp only at hSW); go_simp; (try with_reducible rfl)
            (try simp only [Act.put, List.setIfInBounds_toArray, List.set_cons_zero, List.set_cons_succ])
            refine wpAnyH_take (i := 2) (v := ?_) (by simp only [List.getElem?_toArray, List.getElem?_cons_zero, List.getElem?_cons_succ]; rfl) (by kernel_rfl) (by kernel_rfl) (by kernel_rfl) (by exact fun _ _ _ h => h) (Or.inl ⟨by rfl, ?_⟩) (by assumption) ?_
            rotate_left
            · intro W hSW; (try dsimp only at hSW); go_simp; (try with_reducible rfl)
            (try simp only [Act.put, List.setIfInBounds_toArray, List.set_cons_zero, List.set_cons_succ])
            refine wpAnyH_ready (rs := [1]) (by kernel_rfl) (by simp) ?_
            refine AllReadyH.cons (by simp only [List.getElem?_toArray, List.getElem?_cons_zero, List.getElem?_cons_succ]; rfl) (fun K hK => ?_) AllReadyH.nil
            go_simp
            (go_at_call 32; with_reducible refine (HHF'.out _ (HBW.out _ hw0)).mono ?_; rintro e w3 ⟨rfl, hst3⟩; have hbw3 := HST.out _ _ hw0 hst3)
            (try go_wp2_with fail)
            refine hK.out _ _ ?_ (fun hHeld => ?_)
            · (try dsimp only); (first | with_reducible exact HSS.out _ (by with_reducible assumption) | with_reducible exact HSS.out _ hw0)
            clear hK K
            (try simp only [Act.put, List.setIfInBounds_toArray, List.set_cons_zero, List.set_cons_succ])
            refine wpAnyH_ready (rs := [3]) (by kernel_rfl) (by simp) ?_
            refine AllReadyH.cons (by simp only [List.getElem?_toArray, List.getElem?_cons_zero, List.getElem?_cons_succ]; rfl) (fun K hK => ?_) AllReadyH.nil
            go_simp
            (go_at_call 32; with_reducible refine (HHG'.out _ (HBW.out _ hbw3)).mono ?_; rintro e w4 ⟨rfl, hst4⟩; have hbw4 := HST.out _ _ hbw3 hst4)
            (try go_wp2_with fail)
            refine hK.out _ _ ?_ (fun hHeld => ?_)
            · (try dsimp only); (first | with_reducible exact HSS.out _ (by with_reducible assumption) | with_reducible exact HSS.out _ hw0)
            clear hK K
            (try simp only [Act.put, List.setIfInBounds_toArray, List.set_cons_zero, List.set_cons_succ])
            refine wpAnyH_take (i := 4) (v := ?_) (by simp only [List.getElem?_toArray, List.getElem?_cons_zero, List.getElem?_cons_succ]; rfl) (by kernel_rfl) (by kernel_rfl) (by kernel_rfl) (by exact fun _ _ _ h => h) (Or.inl ⟨by rfl, ?_⟩) (by assumption) ?_
            rotate_left
            · intro W hSW; (try dsimp only at hSW); go_simp; (try with_reducible rfl)
            (try simp only [Act.put, List.setIfInBounds_toArray, List.set_cons_zero, List.set_cons_succ])
            refine wpAnyH_take (i := 5) (v := ?_) (by simp only [List.getElem?_toArray, List.getElem?_cons_zero, List.getElem?_cons_succ]; rfl) (by kernel_rfl) (by kernel_rfl) (by kernel_rfl) (by exact fun _ _ _ h => h) (Or.inl ⟨by rfl, ?_⟩) (by assumption) ?_
            rotate_left
            · intro W hSW; (try dsimp only at hSW); go_simp; (try with_reducible rfl)
            (try simp only [Act.put, List.setIfInBounds_toArray, List.set_cons_zero, List.set_cons_succ])
            refine wpAnyH_take (i := 6) (v := ?_) (by simp only [List.getElem?_toArray, List.getElem?_cons_zero, List.getElem?_cons_succ]; rfl) (by kernel_rfl) (by kernel_rfl) (by kernel_rfl) (by exact fun _ _ _ h => h) (Or.inl ⟨by rfl, ?_⟩) (by assumption) ?_
            rotate_left
            · intro W hSW; (try dsimp only at hSW); go_simp; (try with_reducible rfl)
            (try simp only [Act.put, List.setIfInBounds_toArray, List.set_cons_zero, List.set_cons_succ])
            refine wpAnyH_take (i := 7) (v := ?_) (by simp only [List.getElem?_toArray, List.getElem?_cons_zero, List.getElem?_cons_succ]; rfl) (by kernel_rfl) (by kernel_rfl) (by kernel_rfl) (by exact fun _ _ _ h => h) (Or.inl ⟨by rfl, ?_⟩) (by assumption) ?_
            rotate_left
            · intro W hSW; (try dsimp only at hSW); go_simp; (try with_reducible rfl)
            (try simp only [Act.put, List.setIfInBounds_toArray, List.set_cons_zero, List.set_cons_succ])
            refine wpAnyH_take (i := 8) (v := ?_) (by simp only [List.getElem?_toArray, List.getElem?_cons_zero, List.getElem?_cons_succ]; rfl) (by kernel_rfl) (by kernel_rfl) (by kernel_rfl) (by exact fun _ _ _ h => h) (Or.inl ⟨by rfl, ?_⟩) (by assumption) ?_
            rotate_left
            · intro W hSW; (try dsimp only at hSW); go_simp; (try with_reducible rfl)
            (try simp only [Act.put, List.setIfInBounds_toArray, List.set_cons_zero, List.set_cons_succ])
            refine wpAnyH_take (i := 9) (v := ?_) (by simp only [List.getElem?_toArray, List.getElem?_cons_zero, List.getElem?_cons_succ]; rfl) (by kernel_rfl) (by kernel_rfl) (by kernel_rfl) (by exact fun _ _ _ h => h) (Or.inl ⟨by rfl, ?_⟩) (by assumption) ?_
            rotate_left
            · intro W hSW; (try dsimp only at hSW); go_simp; (try with_reducible rfl)
            (try simp only [Act.put, List.setIfInBounds_toArray, List.set_cons_zero, List.set_cons_succ])
            refine wpAnyH_take (i := 10) (v := ?_) (by simp only [List.getElem?_toArray, List.getElem?_cons_zero, List.getElem?_cons_succ]; rfl) (by kernel_rfl) (by kernel_rfl) (by kernel_rfl) (by exact fun _ _ _ h => h) (Or.inl ⟨by rfl, ?_⟩) (by assumption) ?_
            rotate_left
            · intro W hSW; (try dsimp only at hSW); go_simp; (try with_reducible rfl)
            (try simp only [Act.put, List.setIfInBounds_toArray, List.set_cons_zero, List.set_cons_succ])
            refine wpAnyH_take (i := 11) (v := ?_) (by simp only [List.getElem?_toArray, List.getElem?_cons_zero, List.getElem?_cons_succ]; rfl) (by kernel_rfl) (by kernel_rfl) (by kernel_rfl) (by exact fun _ _ _ h => h) (Or.inl ⟨by rfl, ?_⟩) (by assumption) ?_
            rotate_left
            · intro W hSW; (try dsimp only at hSW); go_simp; (try with_reducible rfl)
            (try simp only [Act.put, List.setIfInBounds_toArray, List.set_cons_zero, List.set_cons_succ])
            refine wpAnyH_take (i := 12) (v := ?_) (by simp only [List.getElem?_toArray, List.getElem?_cons_zero, List.getElem?_cons_succ]; rfl) (by kernel_rfl) (by kernel_rfl) (by kernel_rfl) (by exact fun _ _ _ h => h) (Or.inl ⟨by rfl, ?_⟩) (by assumption) ?_
            rotate_left
            · intro W hSW; (try dsimp only at hSW); go_simp; (try with_reducible rfl)
            (try simp only [Act.put, List.setIfInBounds_toArray, List.set_cons_zero, List.set_cons_succ])
            refine wpAnyH_take (i := 13) (v := ?_) (by simp only [List.getElem?_toArray, List.getElem?_cons_zero, List.getElem?_cons_succ]; rfl) (by kernel_rfl) (by kernel_rfl) (by kernel_rfl) (by exact fun _ _ _ h => h) (Or.inl ⟨by rfl, ?_⟩) (by assumption) ?_
            rotate_left
            · intro W hSW; (try dsimp only at hSW); go_simp; (try with_reducible rfl)
            (try simp only [Act.put, List.setIfInBounds_toArray, List.set_cons_zero, List.set_cons_succ])
            refine wpAnyH_done (by kernel_rfl) ?_ _
            go_wp2
            go_ret
            exact ⟨ret_bool HF.out.symm, HBW.out _ (by with_reducible assumption)⟩
        · have hb1 : (p.atom.toList == q.atom.toList) = false := by rw [toList_inj]; simpa using hpq
          have hb2 : (p.atom.toList != q.atom.toList) = true := by simpa using hb1
          have HF : Hid ((Tree.node s (p :: ps)).alike (.node s' (q :: qs)) a b = false) := by show _ = _; rw [HR.out, decide_eq_false hpq]; simp
          clear HR HEF HEG HIH HKI HC1 HC2 hpq
          generalize p.atom = pa at *
          generalize q.atom = qa at *
          go_wp2_with fail
          refine wp_region_held_drew (S := (fun W => W.cell? ⟨w.heap.size, 0, none⟩ = some (.string s) ∧ W.cell? ⟨w.heap.size, 1, none⟩ = some (.slice (some ⟨b1, f1, none⟩) lp c) ∧ W.cell? ⟨w.heap.size + 1, 0, none⟩ = some (.string s') ∧ W.cell? ⟨w.heap.size + 1, 1, none⟩ = some (.slice (some ⟨b2, f2, none⟩) lq c'))) (by kernel_rfl) ?_ (fun hHeld => ?_)
          · (try dsimp only); exact HSS.out _ hw0
          refine wpAnyH_take (i := 0) (v := ?_) (by simp only [List.getElem?_toArray, List.getElem?_cons_zero]; rfl) (by kernel_rfl) (by kernel_rfl) (by kernel_rfl) (by exact fun _ _ _ h => h) (Or.inl ⟨by rfl, ?_⟩) (by assumption) ?_
          rotate_left
          · intro W hSW; (try dsimp only at hSW); go_simp; (try with_reducible rfl)
          (try simp only [Act.put, List.setIfInBounds_toArray, List.set_cons_zero, List.set_cons_succ])
          refine wpAnyH_take (i := 2) (v := ?_) (by simp only [List.getElem?_toArray, List.getElem?_cons_zero, List.getElem?_cons_succ]; rfl) (by kernel_rfl) (by kernel_rfl) (by kernel_rfl) (by exact fun _ _ _ h => h) (Or.inl ⟨by rfl, ?_⟩) (by assumption) ?_
          rotate_left
          · intro W hSW; (try dsimp only at hSW); go_simp; (try with_reducible rfl)
          (try simp only [Act.put, List.setIfInBounds_toArray, List.set_cons_zero, List.set_cons_succ])
          refine wpAnyH_ready (rs := [1]) (by kernel_rfl) (by simp) ?_
          refine AllReadyH.cons (by simp only [List.getElem?_toArray, List.getElem?_cons_zero, List.getElem?_cons_succ]; rfl) (fun K hK => ?_) AllReadyH.nil
          go_simp
          (go_at_call 32; with_reducible refine (HHF'.out _ (HBW.out _ hw0)).mono ?_; rintro e w3 ⟨rfl, hst3⟩; have hbw3 := HST.out _ _ hw0 hst3)
          (try go_wp2_with fail)
          refine hK.out _ _ ?_ (fun hHeld => ?_)
          · (try dsimp only); (first | with_reducible exact HSS.out _ (by with_reducible assumption) | with_reducible exact HSS.out _ hw0)
          clear hK K
          (try simp only [Act.put, List.setIfInBounds_toArray, List.set_cons_zero, List.set_cons_succ])
          refine wpAnyH_ready (rs := [3]) (by kernel_rfl) (by simp) ?_
          refine AllReadyH.cons (by simp only [List.getElem?_toArray, List.getElem?_cons_zero, List.getElem?_cons_succ]; rfl) (fun K hK => ?_) AllReadyH.nil
          go_simp
          (go_at_call 32; with_reducible refine (HHG'.out _ (HBW.out _ hbw3)).mono ?_; rintro e w4 ⟨rfl, hst4⟩; have hbw4 := HST.out _ _ hbw3 hst4)
          (try go_wp2_with fail)
          refine hK.out _ _ ?_ (fun hHeld => ?_)
          · (try dsimp only); (first | with_reducible exact HSS.out _ (by with_reducible assumption) | with_reducible exact HSS.out _ hw0)
          clear hK K
          (try simp only [Act.put, List.setIfInBounds_toArray, List.set_cons_zero, List.set_cons_succ])
          refine wpAnyH_take (i := 4) (v := ?_) (by simp only [List.getElem?_toArray, List.getElem?_cons_zero, List.getElem?_cons_succ]; rfl) (by kernel_rfl) (by kernel_rfl) (by kernel_rfl) (by exact fun _ _ _ h => h) (Or.inl ⟨by rfl, ?_⟩) (by assumption) ?_
          rotate_left
          · intro W hSW; (try dsimp only at hSW); go_simp; (try with_reducible rfl)
          (try simp only [Act.put, List.setIfInBounds_toArray, List.set_cons_zero, List.set_cons_succ])
          refine wpAnyH_take (i := 5) (v := ?_) (by simp only [List.getElem?_toArray, List.getElem?_cons_zero, List.getElem?_cons_succ]; rfl) (by kernel_rfl) (by kernel_rfl) (by kernel_rfl) (by exact fun _ _ _ h => h) (Or.inl ⟨by rfl, ?_⟩) (by assumption) ?_
          rotate_left
          · intro W hSW; (try dsimp only at hSW); go_simp; (try with_reducible rfl)
          (try simp only [Act.put, List.setIfInBounds_toArray, List.set_cons_zero, List.set_cons_succ])
          refine wpAnyH_take (i := 6) (by simp only [List.getElem?_toArray, List.getElem?_cons_zero, List.getElem?_cons_succ]; rfl) (by kernel_rfl) (by kernel_rfl) (by kernel_rfl) (by exact fun _ _ _ h => h) (Or.inr ⟨by rfl, rfl⟩) (by assumption) ?_
          (try simp only [Act.put, List.setIfInBounds_toArray, List.set_cons_zero, List.set_cons_succ])
          refine wpAnyH_take (i := 7) (by simp only [List.getElem?_toArray, List.getElem?_cons_zero, List.getElem?_cons_succ]; rfl) (by kernel_rfl) (by kernel_rfl) (by kernel_rfl) (by exact fun _ _ _ h => h) (Or.inr ⟨by rfl, rfl⟩) (by assumption) ?_
          (try simp only [Act.put, List.setIfInBounds_toArray, List.set_cons_zero, List.set_cons_succ])
          refine wpAnyH_take (i := 8) (by simp only [List.getElem?_toArray, List.getElem?_cons_zero, List.getElem?_cons_succ]; rfl) (by kernel_rfl) (by kernel_rfl) (by kernel_rfl) (by exact fun _ _ _ h => h) (Or.inr ⟨by rfl, rfl⟩) (by assumption) ?_
          (try simp only [Act.put, List.setIfInBounds_toArray, List.set_cons_zero, List.set_cons_succ])
          refine wpAnyH_take (i := 9) (by simp only [List.getElem?_toArray, List.getElem?_cons_zero, List.getElem?_cons_succ]; rfl) (by kernel_rfl) (by kernel_rfl) (by kernel_rfl) (by exact fun _ _ _ h => h) (Or.inr ⟨by rfl, rfl⟩) (by assumption) ?_
          (try simp only [Act.put, List.setIfInBounds_toArray, List.set_cons_zero, List.set_cons_succ])
          refine wpAnyH_take (i := 10) (by simp only [List.getElem?_toArray, List.getElem?_cons_zero, List.getElem?_cons_succ]; rfl) (by kernel_rfl) (by kernel_rfl) (by kernel_rfl) (by exact fun _ _ _ h => h) (Or.inr ⟨by rfl, rfl⟩) (by assumption) ?_
          (try simp only [Act.put, List.setIfInBounds_toArray, List.set_cons_zero, List.set_cons_succ])
          refine wpAnyH_take (i := 11) (by simp only [List.getElem?_toArray, List.getElem?_cons_zero, List.getElem?_cons_succ]; rfl) (by kernel_rfl) (by kernel_rfl) (by kernel_rfl) (by exact fun _ _ _ h => h) (Or.inr ⟨by rfl, rfl⟩) (by assumption) ?_
          (try simp only [Act.put, List.setIfInBounds_toArray, List.set_cons_zero, List.set_cons_succ])
          refine wpAnyH_take (i := 12) (by simp only [List.getElem?_toArray, List.getElem?_cons_zero, List.getElem?_cons_succ]; rfl) (by kernel_rfl) (by kernel_rfl) (by kernel_rfl) (by exact fun _ _ _ h => h) (Or.inr ⟨by rfl, rfl⟩) (by assumption) ?_
          (try simp only [Act.put, List.setIfInBounds_toArray, List.set_cons_zero, List.set_cons_succ])
          refine wpAnyH_take (i := 13) (v := ?_) (by simp only [List.getElem?_toArray, List.getElem?_cons_zero, List.getElem?_cons_succ]; rfl) (by kernel_rfl) (by kernel_rfl) (by kernel_rfl) (by exact fun _ _ _ h => h) (Or.inl ⟨by rfl, ?_⟩) (by assumption) ?_
          rotate_left
          · intro W hSW; (try dsimp only at hSW); go_simp; (try with_reducible rfl)
          (try simp only [Act.put, List.setIfInBounds_toArray, List.set_cons_zero, List.set_cons_succ])
          refine wpAnyH_done (by kernel_rfl) ?_ _
          go_wp2
          go_ret
          exact ⟨ret_bool HF.out.symm, HBW.out _ (by with_reducible assumption)⟩
end Go.Proofs.Ytoihkjnfklogpaa
