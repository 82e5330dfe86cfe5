/- How many expressions an expression and its parts are, of the program and of the reference. -/
import Derived.Test.YtnhmbncamimehaaExprA
import Derived.Test.YtnhmbncamimehaaPlainH
namespace Go.Proofs.Ytnhmbncamimehaa
open Go.RowKit

set_option maxRecDepth 100000 in
set_option maxHeartbeats 1600000 in
theorem l3Many_any (n : Nat) : ∀ (t : Tree) (A : Nat → Prop) (v : Value) (w : World), t.sz ≤ n → Rep w A t v → t.sz ≤ 1000000000 → t.good = true → t.isExpr = true →
    Calls Try.prog 52 #[v] w fun e w' => e = .returned (.int .i64 t.many) ∧ Below w.heap.size w w' := by
  induction n with
  | zero => intro t A v w h; cases t; simp [Tree.sz] at h
  | succ n ih =>
    intro t A v w hn hr hb hgood hexp
    obtain ⟨s, ps⟩ := t
    simp only [Rep] at hr
    obtain ⟨o, l, c, rfl, hs, hcap⟩ := hr
    obtain rfl := hs.len
    obtain ⟨hgl, hge⟩ := Tree.good_parts hgood
    cases ps with
    | nil =>
      have B0 := boxed0 w (.string s) (.slice o 0 c) 42
      obtain ⟨x0, y0, hB0, hl0⟩ := boxed B0
      have hemp : s.toList.isEmpty = false := by rw [Lib.toList_data]; simpa using hge.1 rfl
      have hemp2 : (s.toList == []) = false := by rw [Lib.toList_data]; simpa using hge.1 rfl
      have HT : Hid ((Tree.node s []).many = 1) := by show _ = _; rw [Tree.many_eq, Tree.kidL_leaf]; rfl
      clear hge hgl hgood ih hs hexp
      go_enter Try.func52, Try.ntmps52
      go_wp2
      go_ret
      exact ⟨ret_int (by rw [HT.out]; rfl), hB0⟩
    | cons p ps =>
      have hse : s.data.toList = [] := Classical.byContradiction fun h => absurd (hge.2 h) (by simp)
      have hemp : s.toList.isEmpty = true := by rw [Lib.toList_data, hse]; rfl
      have hemp2 : (s.toList == []) = true := by rw [Lib.toList_data, hse]; rfl
      obtain ⟨b, off, rfl, hA, hc⟩ := hs.uncons
      obtain ⟨k, hk, hk2, hk1, hkn, -, hkx⟩ := expr_cases hexp
      have hpp : ∀ (i : Nat) (q : Tree), k ≤ i → (p :: ps)[i]? = some q → q.sz ≤ n ∧ q.sz ≤ 1000000000 ∧ q.good = true ∧ q.isExpr = true := fun i q hi hq => by
        have h1 := Tree.sz_part _ _ _ hq
        simp only [Tree.sz] at hn hb
        exact ⟨by omega, by omega, Tree.good_part _ _ _ hq hgl, hkx i q hi hq⟩
      have hll := Tree.length_le_szL (p :: ps)
      have HL := Lib.hid (manyTo_le (.node s (p :: ps)))
      have HS : Hid (∀ (i : Nat) (q : Tree), k ≤ i → (p :: ps)[i]? = some q → (Tree.node s (p :: ps)).manyTo (i + 1 - k) = (Tree.node s (p :: ps)).manyTo (i - k) + q.many) := fun i q hi hq => by
        rw [show i + 1 - k = (i - k) + 1 from by omega]
        exact manyTo_succ (kidL_at hk hk1 hi hq)
      have HE : Hid (∀ i, ps.length + 1 ≤ i → (Tree.node s (p :: ps)).manyTo (i - k) = (Tree.node s (p :: ps)).many) := fun i hi => manyTo_end (by rw [kidL_len hk hk1]; omega)
      have HZ : Hid ((Tree.node s (p :: ps)).manyTo (k - k) = 1) := by show _ = _; rw [Nat.sub_self, manyTo_zero]
      have hML : (Tree.node s (p :: ps)).sz ≤ 1000000000 := hb
      generalize hsz : (Tree.node s (p :: ps)).sz = SZ at HL hML
      have HK := Lib.hid (l2Kids_any p.atom)
      rw [hk2] at HK
      have B0 := boxed0 w (.string s) (.slice (some ⟨b, off, none⟩) (ps.length + 1) c) 42
      obtain ⟨x0, y0, hB0, hl0⟩ := boxed B0
      simp only [List.length_cons] at hcap hll
      have HRC : Hid (∀ W, Below w.heap.size w W → RepC W A (p :: ps) b off) := fun W h => RepC.keep (Keeps.below h) hA _ _ hc
      obtain ⟨o0, n0, c0, ca0, cb0, r0⟩ := (HRC.out _ hB0).nth 0 (k := off) rfl rfl
      have HQ := Lib.hid (fun (i : Nat) (q : Tree) (hi : k ≤ i) (hq : (p :: ps)[i]? = some q) v w' hr => ih q A v w' (hpp i q hi hq).1 hr (hpp i q hi hq).2.1 (hpp i q hi hq).2.2.1 (hpp i q hi hq).2.2.2)
      have hlN : ps.length + 1 ≤ 1000000000 := by simp only [Tree.sz] at hb; omega
      clear hc hs hse hge hgood hgl ih hexp hkx hpp hk2 hk hb hn hsz
      generalize (Tree.node s (p :: ps)).many = R at *
      generalize (Tree.node s (p :: ps)).manyTo = M at *
      go_enter Try.func52, Try.ntmps52
      go_wp2_with fail
      refine (HK.out _).mono ?_
      rintro e w1 ⟨rfl, rfl⟩
      go_wp2
      go_loopw [3, 6] (fun nv iv wr => ∃ i : Nat, k ≤ i ∧ i ≤ ps.length + 1 ∧ iv = .int .i64 i ∧ nv = .int .i64 (M (i - k) : Nat) ∧ Below (w.heap.size + 1) (w.alloc (.cells #[.string s, .slice (some ⟨b, off, none⟩) (ps.length + 1) c] 42)) wr) (fun _ iv _ => ps.length + 1 - (intOf iv).toNat)
      case atStart => exact ⟨k, Nat.le_refl _, by omega, rfl, by rw [HZ.out]; rfl, B0⟩
      case round =>
        obtain ⟨i, hi1, hi, rfl, rfl, hbr⟩ := hrel
        obtain ⟨x1, y1, hB1, hl1⟩ := boxed hbr
        by_cases hlt : i < ps.length + 1
        · obtain ⟨q, hq⟩ : ∃ q, (p :: ps)[i]? = some q := ⟨(p :: ps)[i]'(by simpa using hlt), by simp⟩
          obtain ⟨o', n', c', hx, hy, hrp⟩ := (HRC.out _ hB1).nth i (p := q) (k := off + i * 2) hq rfl
          have HCl := Lib.hid (HQ.out i q hi1 hq _ wr hrp)
          have h1 := HS.out i q hi1 hq
          have h2 := HL.out (i + 1 - k)
          have h3 : M (i - k) + q.many ≤ 1000000000 := by omega
          have HN := Lib.hid h1
          clear hq h1 h2
          go_wp2_with fail
          refine HCl.out.mono ?_
          rintro e wq ⟨rfl, hbq⟩
          have hB2 := hbr.next hbq
          go_wp2
          go_roundw
          case rel => exact ⟨i + 1, by omega, by omega, by go_num, by rw [HN.out]; go_num, hB2⟩
          case measure => simp [intOf]; omega
        · go_wp2
          go_ret
          exact ⟨ret_int (by rw [HE.out i (by omega)]), hB1⟩

set_option maxRecDepth 100000 in
set_option maxHeartbeats 1600000 in
theorem many_any (n : Nat) : ∀ (t : Tree) (A : Nat → Prop) (v : Value) (w : World), t.sz ≤ n → Rep w A t v → t.sz ≤ 1000000000 → t.isExpr = true →
    Calls Try.prog 53 #[v] w fun e w' => e = .returned (.int .i64 t.many) ∧ Below w.heap.size w w' := by
  induction n with
  | zero => intro t A v w h; cases t; simp [Tree.sz] at h
  | succ n ih =>
    intro t A v w hn hr hb hexp
    have hln : t.parts.length ≤ 1000000000 := by cases t with | node a ps => have := Tree.length_le_szL ps; simp only [Tree.sz, Tree.parts] at *; omega
    have HKI := Lib.hid (fun v w hr => kids_any t A v w hr hln)
    obtain ⟨s, ps⟩ := t
    have hr' := hr
    simp only [Rep] at hr
    obtain ⟨o, l, c, rfl, hs, hcap⟩ := hr
    obtain rfl := hs.len
    have B0 := boxed0 w (.string s) (.slice o ps.length c) 46
    obtain ⟨x0, y0, hB0, hl0⟩ := boxed B0
    cases ps with
    | nil =>
      have HT : Hid ((Tree.node s []).many = 1) := by show _ = _; rw [Tree.many_eq, Tree.kidL_leaf]; rfl
      have HK0 : Hid (kidsOf (Tree.hd (.node s [])).data.toList (Tree.parts (.node s [])).length = []) := rfl
      have HR : Hid (∀ W, Below w.heap.size w W → Rep W A (.node s []) (.agg #[.string s, .slice o 0 c])) := fun W h => Rep.keep (Keeps.below h) _ _ hr'
      clear ih hs hexp hr'
      go_enter Try.func53, Try.ntmps53
      go_wp2_with fail
      refine (HKI.out _ _ (HR.out _ hB0)).mono ?_
      rintro e w1 ⟨hb1, hks⟩
      have B1 := Below.next B0 hb1; obtain ⟨x1, y1, hB1, hl1⟩ := boxed B1; clear hb1
      rw [HK0.out] at hks
      rcases hks with ⟨-, rfl⟩ | ⟨h, -⟩
      · go_wp2
        go_loopw [3, 9] (fun nv iv wr => iv = .int .i64 0 ∧ nv = .int .i64 1 ∧ wr = w1) (fun _ _ _ => 0)
        case atStart => exact ⟨rfl, rfl, rfl⟩
        case round =>
          obtain ⟨rfl, rfl, rfl⟩ := hrel
          go_wp2
          go_ret
          exact ⟨ret_int (by rw [HT.out]; rfl), hB1⟩
      · exact absurd rfl h
    | cons p ps =>
      obtain ⟨b, off, rfl, hA, hc⟩ := hs.uncons
      obtain ⟨k, hk, hk2, hk1, hkn, -, hkx⟩ := expr_cases hexp
      have hpp : ∀ (i : Nat) (q : Tree), k ≤ i → (p :: ps)[i]? = some q → q.sz ≤ n ∧ q.sz ≤ 1000000000 ∧ q.isExpr = true := fun i q hi hq => by
        have h1 := Tree.sz_part _ _ _ hq
        simp only [Tree.sz] at hn hb
        exact ⟨by omega, by omega, hkx i q hi hq⟩
      have hll := Tree.length_le_szL (p :: ps)
      have HL := Lib.hid (manyTo_le (.node s (p :: ps)))
      have HS : Hid (∀ (j : Nat) (q : Tree), (p :: ps)[k + j]? = some q → (Tree.node s (p :: ps)).manyTo (j + 1) = (Tree.node s (p :: ps)).manyTo j + q.many) := fun j q hq => by
        have := kidL_at (a := s) hk hk1 (Nat.le_add_right k j) hq
        rw [show k + j - k = j from by omega] at this
        exact manyTo_succ this
      have HE : Hid (∀ j, ps.length + 1 - k ≤ j → (Tree.node s (p :: ps)).manyTo j = (Tree.node s (p :: ps)).many) := fun j hj => manyTo_end (by rw [kidL_len hk hk1]; omega)
      have HZ : Hid ((Tree.node s (p :: ps)).manyTo 0 = 1) := manyTo_zero _
      have hML : (Tree.node s (p :: ps)).sz ≤ 1000000000 := hb
      generalize hsz : (Tree.node s (p :: ps)).sz = SZ at HL hML
      have hkl := kidsOf_length p.atom.data.toList (ps.length + 1) (by omega)
      have hkg := kidsOf_get p.atom.data.toList (ps.length + 1) (by omega)
      have HKI' : Hid (∀ v w, Rep w A (.node s (p :: ps)) v → Calls Try.prog 74 #[v] w (KidsR (kidsOf p.atom.data.toList (ps.length + 1)) w)) := HKI.out
      rw [hk] at hkl hkg
      generalize kidsOf p.atom.data.toList (ps.length + 1) = ks at *
      simp only [List.length_cons] at hcap hll B0 x0 y0 hB0 hl0
      have HRC : Hid (∀ W, Below w.heap.size w W → RepC W A (p :: ps) b off) := fun W h => RepC.keep (Keeps.below h) hA _ _ hc
      have HR : Hid (∀ W, Below w.heap.size w W → Rep W A (.node s (p :: ps)) (.agg #[.string s, .slice (some ⟨b, off, none⟩) (ps.length + 1) c])) := fun W h => Rep.keep (Keeps.below h) _ _ hr'
      have HQ := Lib.hid (fun (i : Nat) (q : Tree) (hi : k ≤ i) (hq : (p :: ps)[i]? = some q) v w' hr => ih q A v w' (hpp i q hi hq).1 hr (hpp i q hi hq).2.1 (hpp i q hi hq).2.2)
      have hlN : ps.length + 1 ≤ 1000000000 := by simp only [Tree.sz] at hb; omega
      have hlk : 0 < ks.length := by omega
      have hlk2 : ks.length ≤ ps.length + 1 := by omega
      have HKL := Lib.hid hkl
      have HKG := Lib.hid hkg
      clear hc hs ih hexp hkx hpp hk2 hk hb hn hsz hr' HKI hkl hkg hln
      generalize (Tree.node s (p :: ps)).many = R at *
      generalize (Tree.node s (p :: ps)).manyTo = M at *
      go_enter Try.func53, Try.ntmps53
      go_wp2_with fail
      refine (HKI'.out _ _ (HR.out _ hB0)).mono ?_
      rintro e w1 ⟨hb1, hks⟩
      have B1 := Below.next B0 hb1; obtain ⟨x1, y1, hB1, hl1⟩ := boxed B1; clear hb1
      rcases hks with ⟨h, rfl⟩ | ⟨-, bk, ck, rfl, hbk, hck, hkc⟩
      · exact absurd h (by intro h; rw [h] at hlk; simp at hlk)
      have hbk1 : bk < w1.heap.size := by
        obtain ⟨q, hq⟩ : ∃ q, ks[0]? = some q := ⟨ks[0]'hlk, by simp⟩
        exact lt_of_cell (hkc 0 q hq)
      have HKC := Lib.hid hkc
      clear hkc hbk
      go_wp2
      go_loopw [3, 9] (fun nv iv wr => ∃ m : Nat, m ≤ ks.length ∧ iv = .int .i64 m ∧ nv = .int .i64 (M m : Nat) ∧ Below w1.heap.size w1 wr) (fun _ iv _ => ks.length - (intOf iv).toNat)
      case atStart => exact ⟨0, Nat.zero_le _, rfl, by rw [HZ.out]; rfl, Below.refl _ _⟩
      case round =>
        obtain ⟨m, hm, rfl, rfl, hbr⟩ := hrel
        have B2 := Below.next B1 hbr
        obtain ⟨x2, y2, hB2, hl2⟩ := boxed B2
        by_cases hlt : m < ks.length
        · obtain ⟨i, HI, hi⟩ : ∃ i, Hid (i = k + m) ∧ i < ps.length + 1 := ⟨k + m, rfl, by have := HKL.out; omega⟩
          have hcell : wr.cell? ⟨bk, m, none⟩ = some (.int .i64 (i : Int)) := by
            have h1 := HKC.out m (k + m) (HKG.out m (by have := HKL.out; omega))
            rw [HI.out]
            exact (hbr.cell hbk1).trans h1
          obtain ⟨q, hq⟩ : ∃ q, (p :: ps)[i]? = some q := ⟨(p :: ps)[i]'(by simpa using hi), by simp⟩
          obtain ⟨o', n', c', hx, hy, hrp⟩ := (HRC.out _ hB2).nth i (p := q) (k := off + i * 2) hq rfl
          have HCl := Lib.hid (HQ.out i q (by have := HI.out; omega) hq _ wr hrp)
          have h1 := HS.out m q (by rw [← HI.out]; exact hq)
          have h2 := HL.out (m + 1)
          have h3 : M m + q.many ≤ 1000000000 := by omega
          have HN := Lib.hid h1
          clear hq h1 h2
          go_wp2_with fail
          refine HCl.out.mono ?_
          rintro e wq ⟨rfl, hbq⟩
          have hbr2 := hbr.trans (hbq.mono hbr.size)
          go_wp2
          go_roundw
          case rel => exact ⟨m + 1, by omega, by go_num, by rw [HN.out]; go_num, hbr2⟩
          case measure => simp [intOf]; omega
        · go_wp2
          go_ret
          exact ⟨ret_int (by rw [HE.out m (by have := HKL.out; omega)]), hB2⟩

/-- A number of an expression. -/
def numE (f : Tree → Nat) : Option Tree → Int | some t => (f t : Int) | none => -1

set_option maxRecDepth 100000 in
set_option maxHeartbeats 800000 in
theorem exprMany_any (s : ByteArray) (w : World) (hs : s.size ≤ 1000000000) :
    Calls Try.prog 25 #[.string s] w fun e w' => e = .returned (.int .i64 (numE Tree.many (pexpr s.data.toList))) ∧ Below w.heap.size w w' := by
  have HC := Lib.hid (fun W => readExpr_any s W hs)
  go_enter Try.func25, Try.ntmps25
  go_wp2_with fail
  refine (HC.out _).mono ?_
  rintro e w1 ⟨a, o, l, c, ok, t, rfl, hb1, hr, hok, ht⟩
  cases hp : pexpr s.data.toList with
  | none =>
    rw [hp] at hok
    have hok' : ok = false := hok
    subst hok'
    have HP := Lib.hid hp
    clear hok ht hp
    go_wp2
    go_ret
    exact ⟨ret_int (by rw [HP.out]; rfl), hb1.alloc hb1.size _⟩
  | some t' =>
    rw [hp] at hok
    have hok' : ok = true := hok
    subst hok'
    obtain rfl := ht _ hp
    obtain ⟨hg, hsz, htx, he, -⟩ := pexpr_facts hp
    have HP := Lib.hid hp
    clear hok ht hp
    have HM := Lib.hid (many_any _ t _ _ (w1.alloc (.cells #[.string a, .slice o l c] 46)) (Nat.le_refl _) (Rep.keep (Keeps.alloc _ _ _) _ _ hr) (by omega) he)
    have hB1 : Below w.heap.size w (w1.alloc (.cells #[.string a, .slice o l c] 46)) := hb1.alloc hb1.size _
    clear hg hsz htx he
    go_wp2_with fail
    refine HM.out.mono ?_
    rintro e w2 ⟨rfl, hb2⟩
    go_wp2
    go_ret
    exact ⟨ret_int (by rw [HP.out]; rfl), hB1.trans (hb2.mono hB1.size)⟩

set_option maxRecDepth 100000 in
set_option maxHeartbeats 800000 in
theorem sExprMany_any (s : ByteArray) (w : World) (hs : s.size ≤ 1000000000) :
    Calls Try.prog 24 #[.string s] w fun e w' => e = .returned (.int .i64 (numE Tree.many (pexpr s.data.toList))) ∧ Below w.heap.size w w' := by
  have HC := Lib.hid (fun W => l2Parse_any s W hs)
  go_enter Try.func24, Try.ntmps24
  go_wp2_with fail
  refine (HC.out _).mono ?_
  rintro e w1 ⟨a, o, l, c, ok, t, rfl, hb1, hr, hok, ht⟩
  cases hp : pexpr s.data.toList with
  | none =>
    rw [hp] at hok
    have hok' : ok = false := hok
    subst hok'
    have HP := Lib.hid hp
    clear hok ht hp
    go_wp2
    go_ret
    exact ⟨ret_int (by rw [HP.out]; rfl), hb1.alloc hb1.size _⟩
  | some t' =>
    rw [hp] at hok
    have hok' : ok = true := hok
    subst hok'
    obtain rfl := ht _ hp
    obtain ⟨hg, hsz, htx, he, -⟩ := pexpr_facts hp
    have HP := Lib.hid hp
    clear hok ht hp
    have HM := Lib.hid (l3Many_any _ t _ _ (w1.alloc (.cells #[.string a, .slice o l c] 42)) (Nat.le_refl _) (Rep.keep (Keeps.alloc _ _ _) _ _ hr) (by omega) hg he)
    have hB1 : Below w.heap.size w (w1.alloc (.cells #[.string a, .slice o l c] 42)) := hb1.alloc hb1.size _
    clear hg hsz htx he
    go_wp2_with fail
    refine HM.out.mono ?_
    rintro e w2 ⟨rfl, hb2⟩
    go_wp2
    go_ret
    exact ⟨ret_int (by rw [HP.out]; rfl), hB1.trans (hb2.mono hB1.size)⟩
end Go.Proofs.Ytnhmbncamimehaa
