/- The texts of the parts of an expression that are expressions, of the program and of the reference. -/
import Derived.Test.YtnhmbncamimehaaExprA
import Derived.Test.YtnhmbncamimehaaPlainH
namespace Go.Proofs.Ytnhmbncamimehaa
open Go.RowKit

def kidsTxt (s : List UInt8) : Option (List ByteArray) := (pexpr s).map fun t => t.kidL.map Tree.txt

theorem kidL_lenLe (t : Tree) : t.kidL.length ≤ t.sz := by
  obtain ⟨a, ps⟩ := t
  have := Tree.length_le_szL ps
  unfold Tree.kidL
  split
  · simp
  · simp only [Tree.parts, List.length_drop, Tree.sz]; omega
theorem kidsTxt_len (s : List UInt8) : ((kidsTxt s).getD []).length ≤ 1000000 := by
  unfold kidsTxt
  cases h : pexpr s with
  | none => simp
  | some t =>
    have := kidL_lenLe t
    have := (pexpr_facts h).2.1
    simp only [Option.map_some, Option.getD_some, List.length_map]; omega

/-- The first m texts. -/
def Tree.txtsTo (t : Tree) (m : Nat) : List ByteArray := (t.kidL.take m).map Tree.txt
theorem txtsTo_succ {t q : Tree} {m : Nat} (h : t.kidL[m]? = some q) : t.txtsTo (m + 1) = t.txtsTo m ++ [q.txt] := by
  unfold Tree.txtsTo; rw [List.take_add_one, h]; simp
theorem txtsTo_end {t : Tree} {m : Nat} (h : t.kidL.length ≤ m) : t.txtsTo m = t.kidL.map Tree.txt := by
  unfold Tree.txtsTo; rw [List.take_of_length_le h]
theorem txtsTo_len (t : Tree) (m : Nat) : (t.txtsTo m).length ≤ t.sz := by
  have := kidL_lenLe t
  unfold Tree.txtsTo; simp only [List.length_map, List.length_take]; omega

set_option maxRecDepth 100000 in
set_option maxHeartbeats 1600000 in
theorem sExprKids_any (s : ByteArray) (w : World) (hs : s.size ≤ 1000000000) : Calls Try.prog 38 #[.string s] w (TextsR (kidsTxt s.data.toList) w) := by
  have HC := Lib.hid (fun W => l2Parse_any s W hs)
  go_enter Try.func38, Try.ntmps38
  go_wp2_with fail
  refine (HC.out _).mono ?_
  rintro e w1 ⟨a, o, l, c, ok, t, rfl, hb1, hr, hok, ht⟩
  have hE := SRow.empty (w1.alloc (.cells #[.string a, .slice o l c] 42)) (base := w.heap.size) (by have := hb1.size; simp; omega)
  rw [World.size_alloc] at hE
  have HE0 := Lib.hid hE
  have HB := Lib.hid ((hb1.alloc hb1.size (.cells #[.string a, .slice o l c] 42)).alloc (by have := hb1.size; simp; omega) (.cells #[] 9))
  clear hE
  cases hp : pexpr s.data.toList with
  | none =>
    rw [hp] at hok
    have hok' : ok = false := hok
    subst hok'
    have HR : Hid (kidsTxt s.data.toList = none) := by show _ = _; unfold kidsTxt; rw [hp]; rfl
    clear hok ht hp hr hb1
    go_wp2
    go_ret2
    exact ⟨.slice (some ⟨w1.heap.size + 1, 0, none⟩) 0 0, by rw [HR.out]; rfl, by rw [HR.out]; exact HE0.out, HB.out⟩
  | some t' =>
    rw [hp] at hok
    have hok' : ok = true := hok
    subst hok'
    obtain rfl := ht _ hp
    obtain ⟨hg, hsz, htx, hexp, -⟩ := pexpr_facts hp
    have HR : Hid (kidsTxt s.data.toList = some (t.kidL.map Tree.txt)) := by show _ = _; unfold kidsTxt; rw [hp]; rfl
    clear hok ht hp
    obtain ⟨s', ps⟩ := t
    obtain ⟨hgl, hge⟩ := Tree.good_parts hg
    simp only [Rep] at hr
    obtain ⟨o', l', c', heq, hs', hcap⟩ := hr
    simp at heq
    obtain ⟨rfl, rfl, rfl, rfl⟩ := heq
    obtain rfl := hs'.len
    cases ps with
    | nil =>
      have hemp : a.toList.isEmpty = false := by rw [Lib.toList_data]; simpa using hge.1 rfl
      have hemp2 : (a.toList == []) = false := by rw [Lib.toList_data]; simpa using hge.1 rfl
      rw [Tree.kidL_leaf] at HR
      clear hge hg hgl hs' hexp htx hsz hb1
      go_wp2
      go_ret2
      exact ⟨.slice (some ⟨w1.heap.size + 1, 0, none⟩) 0 0, by rw [HR.out]; rfl, by rw [HR.out]; exact HE0.out, HB.out⟩
    | cons p ps =>
      have hse : a.data.toList = [] := Classical.byContradiction fun h => absurd (hge.2 h) (by simp)
      have hemp : a.toList.isEmpty = true := by rw [Lib.toList_data, hse]; rfl
      have hemp2 : (a.toList == []) = true := by rw [Lib.toList_data, hse]; rfl
      obtain ⟨b, off, rfl, hA, hc⟩ := (RepS.bound _ _ _ hs').uncons
      obtain ⟨k, hk, hk2, hk1, hkn, -, -⟩ := expr_cases hexp
      have hpp : ∀ (i : Nat) (q : Tree), (p :: ps)[i]? = some q → q.sz ≤ 24000 ∧ q.text.length ≤ 12000 ∧ q.good = true := fun i q hq => by
        have h1 := Tree.sz_part _ _ _ hq
        have h2 := text_part_le (a := a) (List.mem_of_getElem? hq)
        simp only [Tree.sz] at hsz
        exact ⟨by omega, by omega, Tree.good_part _ _ _ hq hgl⟩
      have HPP := Lib.hid hpp
      have HS : Hid (∀ (i : Nat) (q : Tree), k ≤ i → (p :: ps)[i]? = some q → (Tree.node a (p :: ps)).txtsTo (i + 1 - k) = (Tree.node a (p :: ps)).txtsTo (i - k) ++ [q.txt]) := fun i q hi hq => by
        rw [show i + 1 - k = (i - k) + 1 from by omega]
        exact txtsTo_succ (kidL_at hk hk1 hi hq)
      have HE : Hid (∀ i, ps.length + 1 ≤ i → (Tree.node a (p :: ps)).txtsTo (i - k) = (Tree.node a (p :: ps)).kidL.map Tree.txt) := fun i hi => txtsTo_end (by rw [kidL_len hk hk1]; omega)
      have HZ : Hid ((Tree.node a (p :: ps)).txtsTo (k - k) = []) := by show _ = _; rw [Nat.sub_self]; rfl
      have HLB : Hid (∀ m, ((Tree.node a (p :: ps)).txtsTo m).length ≤ 24000) := fun m => Nat.le_trans (txtsTo_len _ _) hsz
      have HK := Lib.hid (l2Kids_any p.atom)
      rw [hk2] at HK
      have hll := Tree.length_le_szL (p :: ps)
      have hlN : ps.length + 1 ≤ 24000 := by simp only [Tree.sz, List.length_cons] at hsz hll; omega
      have hx1 : ((w1.alloc (.cells #[.string a, .slice (some ⟨b, off, none⟩) (ps.length + 1) c] 42)).alloc (.cells #[] 9)).heap[w1.heap.size]? = some (.cells #[.string a, .slice (some ⟨b, off, none⟩) (ps.length + 1) c] 42 (0, 0)) := (Lib.alloc_old _ _ _ (by simp)).trans (heap_alloc_new _ _)
      have HX1 := Lib.hid hx1
      have HRC : Hid (∀ W, Below (w1.heap.size + 1) ((w1.alloc (.cells #[.string a, .slice (some ⟨b, off, none⟩) (ps.length + 1) c] 42)).alloc (.cells #[] 9)) W → RepC W (fun z => w.heap.size ≤ z ∧ z < w1.heap.size) (p :: ps) b off) := fun W h =>
        RepC.keep ((Keeps.alloc _ w1 _).alloc' _ |>.trans (Keeps.below' h (fun b hb => by omega))) hA _ _ hc
      simp only [List.length_cons] at hcap HB HE0
      have hw1 := hb1.size
      obtain ⟨x1, y1⟩ := box_cells hx1
      obtain ⟨o0, n0, c0, ca0, cb0, r0⟩ := (HRC.out _ (Below.refl _ _)).nth 0 (k := off) rfl rfl
      generalize (Tree.node a (p :: ps)).kidL.map Tree.txt = R at *
      generalize (Tree.node a (p :: ps)).txtsTo = L at *
      clear hge hg hgl hs' hc hse hexp htx hsz hpp hk hk2 hx1 hb1 hll
      go_wp2_with fail
      refine (HK.out _).mono ?_
      rintro e w2 ⟨rfl, rfl⟩
      go_wp2
      go_loopw [9, 6] (fun iv lu wr => ∃ (i : Nat) (lv : Value), k ≤ i ∧ i ≤ ps.length + 1 ∧ iv = .int .i64 i ∧ lv = lu ∧ Hid (SRow wr (w1.heap.size + 1) lv (L (i - k))) ∧ Below (w1.heap.size + 1) ((w1.alloc (.cells #[.string a, .slice (some ⟨b, off, none⟩) (ps.length + 1) c] 42)).alloc (.cells #[] 9)) wr) (fun iv _ _ => ps.length + 1 - (intOf iv).toNat)
      case atStart =>
        refine ⟨k, _, Nat.le_refl _, by omega, rfl, rfl, ?_, Below.refl _ _⟩
        have := SRow.empty (w1.alloc (.cells #[.string a, .slice (some ⟨b, off, none⟩) (ps.length + 1) c] 42)) (base := w1.heap.size + 1) (by simp)
        rw [World.size_alloc] at this
        rw [HZ.out]
        exact this
      case round =>
        obtain ⟨i, lv, hi1, hi, rfl, rfl, HRR, hbr⟩ := hrel
        have hsr2 := hbr.size
        simp only [World.size_alloc] at hsr2
        obtain ⟨c0', c1'⟩ := box_cells ((hbr.block w1.heap.size (by omega)).trans HX1.out)
        by_cases hlt : i < ps.length + 1
        · obtain ⟨q, hq⟩ : ∃ q, (p :: ps)[i]? = some q := ⟨(p :: ps)[i]'(by simpa using hlt), by simp⟩
          obtain ⟨o', n', c', hx, hy, hrp⟩ := (HRC.out _ hbr).nth i (p := q) (k := off + i * 2) hq rfl
          obtain ⟨h4, h5, h6⟩ := HPP.out i q hq
          have HT := Lib.hid (HS.out i q hi1 hq)
          have HCl := Lib.hid (l1Text_any _ q _ _ wr (Nat.le_refl _) hrp (by omega) (by omega) h6)
          rw [show bts q.text = q.txt from rfl] at HCl
          have HLEN := Lib.hid (HLB.out (i - k))
          generalize q.txt = P at HCl HT
          clear hq hrp h4 h5 h6
          obtain ⟨vo, vc, rfl, -⟩ := HRR.out.forms
          go_wp2_with fail
          refine HCl.out.mono ?_
          rintro e w2 ⟨rfl, hb2⟩
          have HR2 := Lib.hid (HRR.out.below hb2)
          have hbr2 := hbr.trans (hb2.mono (by omega))
          have hs2 := hb2.size
          clear hb2 HCl
          go_wp2_with (at_builtin; refine wpList_append_str rfl (.tmp 40) (.tmp 47) rfl (w1.heap.size + 1) _ rfl (L (i - k)) _ 1 rfl P (by simp) HR2.out (by have := HLEN.out; omega) (by omega) ?_; intro g2 cap2 w3 hrow3 hg3 hown3)
          have HR3 := Lib.hid hrow3
          have hbr3 := (hbr2.alloc (by omega) (.cells #[.string P] 9)).grown hg3 (by simp; omega) (fun j hj => (HR2.out.lt j hj).1)
          clear hrow3 hg3 hown3
          go_wp2
          go_roundw
          case rel => exact ⟨i + 1, _, by omega, by omega, by go_num, rfl, by rw [HT.out]; exact HR3, hbr3⟩
          case measure => simp [intOf]; omega
        · have HF : Hid (SRow wr (w1.heap.size + 1) lv R) := by
            have := HRR.out
            rw [HE.out i (by omega)] at this
            exact this
          have hBF : Below w.heap.size w wr := HB.out.trans (hbr.mono (by omega))
          clear HRR
          obtain ⟨vo, vc, rfl, -⟩ := HF.out.forms
          go_wp2
          go_ret2
          exact ⟨.slice vo R.length vc, by rw [HR.out]; rfl, by rw [HR.out]; exact HF.out.mono (Nat.le_succ_of_le hw1), hBF⟩

set_option maxRecDepth 100000 in
set_option maxHeartbeats 1600000 in
theorem exprKids_any (s : ByteArray) (w : World) (hs : s.size ≤ 1000000000) : Calls Try.prog 39 #[.string s] w (TextsR (kidsTxt s.data.toList) w) := by
  have HC := Lib.hid (fun W => readExpr_any s W hs)
  go_enter Try.func39, Try.ntmps39
  go_wp2_with fail
  refine (HC.out _).mono ?_
  rintro e w1 ⟨a, o, l, c, ok, t, rfl, hb1, hr, hok, ht⟩
  have HB := Lib.hid (hb1.alloc hb1.size (.cells #[.string a, .slice o l c] 46))
  cases hp : pexpr s.data.toList with
  | none =>
    rw [hp] at hok
    have hok' : ok = false := hok
    subst hok'
    have HR : Hid (kidsTxt s.data.toList = none) := by show _ = _; unfold kidsTxt; rw [hp]; rfl
    clear hok ht hp hr hb1
    go_wp2
    go_ret2
    exact ⟨.slice none 0 0, by rw [HR.out]; rfl, by rw [HR.out]; exact SRow.nil _ _, HB.out⟩
  | some t' =>
    rw [hp] at hok
    have hok' : ok = true := hok
    subst hok'
    obtain rfl := ht _ hp
    obtain ⟨hg, hsz, htx, hexp, -⟩ := pexpr_facts hp
    have HR : Hid (kidsTxt s.data.toList = some (t.kidL.map Tree.txt)) := by show _ = _; unfold kidsTxt; rw [hp]; rfl
    clear hok ht hp
    have hln : t.parts.length ≤ 1000000000 := by cases t with | node a ps => have := Tree.length_le_szL ps; simp only [Tree.sz, Tree.parts] at *; omega
    have hkids := fun v w hr => kids_any t (fun b => w1.heap.size ≤ b ∨ b < w1.heap.size) v w hr hln
    have hr1 : Rep (w1.alloc (.cells #[.string a, .slice o l c] 46)) (fun b => w1.heap.size ≤ b ∨ b < w1.heap.size) t (.agg #[.string a, .slice o l c]) := Rep.weak (fun b _ => by omega) _ _ (Rep.keep (Keeps.alloc _ _ _) _ _ hr)
    obtain ⟨s', ps⟩ := t
    obtain ⟨hgl, hge⟩ := Tree.good_parts hg
    simp only [Rep] at hr
    obtain ⟨o', l', c', heq, hs', hcap⟩ := hr
    simp at heq
    obtain ⟨rfl, rfl, rfl, rfl⟩ := heq
    obtain rfl := hs'.len
    have HK1 := Lib.hid (hkids _ _ hr1)
    have B1 := boxed0 w1 (.string a) (.slice o ps.length c) 46
    obtain ⟨x1, y1, hB1, hl1⟩ := boxed B1
    clear hkids hr1
    cases ps with
    | nil =>
      rw [Tree.kidL_leaf] at HR
      have HK0 : Hid (kidsOf (Tree.hd (.node a [])).data.toList (Tree.parts (.node a [])).length = []) := rfl
      clear hge hg hgl hs' hexp htx hsz
      go_wp2_with fail
      refine HK1.out.mono ?_
      rintro e w2 ⟨hb2, hks⟩
      rw [HK0.out] at hks
      have hBF : Below w.heap.size w w2 := HB.out.trans (hb2.mono HB.out.size)
      rcases hks with ⟨-, rfl⟩ | ⟨h, -⟩
      · go_wp2
        go_loopw [19, 6] (fun iv lu wr => iv = .int .i64 0 ∧ lu = .slice none 0 0 ∧ wr = w2) (fun _ _ _ => 0)
        case atStart => exact ⟨rfl, rfl, rfl⟩
        case round =>
          obtain ⟨rfl, rfl, rfl⟩ := hrel
          go_wp2
          go_ret2
          exact ⟨.slice none 0 0, by rw [HR.out]; rfl, by rw [HR.out]; exact SRow.nil _ _, hBF⟩
      · exact absurd rfl h
    | cons p ps =>
      obtain ⟨b, off, rfl, hA, hc⟩ := hs'.uncons
      obtain ⟨k, hk, hk2, hk1, hkn, -, -⟩ := expr_cases hexp
      have hpp : ∀ (i : Nat) (q : Tree), (p :: ps)[i]? = some q → q.sz ≤ 24000 ∧ q.text.length ≤ 12000 ∧ q.good = true := fun i q hq => by
        have h1 := Tree.sz_part _ _ _ hq
        have h2 := text_part_le (a := a) (List.mem_of_getElem? hq)
        simp only [Tree.sz] at hsz
        exact ⟨by omega, by omega, Tree.good_part _ _ _ hq hgl⟩
      have HPP := Lib.hid hpp
      have HS : Hid (∀ (j : Nat) (q : Tree), (p :: ps)[k + j]? = some q → (Tree.node a (p :: ps)).txtsTo (j + 1) = (Tree.node a (p :: ps)).txtsTo j ++ [q.txt]) := fun j q hq => by
        have := kidL_at (a := a) hk hk1 (Nat.le_add_right k j) hq
        rw [show k + j - k = j from by omega] at this
        exact txtsTo_succ this
      have HE : Hid (∀ j, ps.length + 1 - k ≤ j → (Tree.node a (p :: ps)).txtsTo j = (Tree.node a (p :: ps)).kidL.map Tree.txt) := fun j hj => txtsTo_end (by rw [kidL_len hk hk1]; omega)
      have HZ : Hid ((Tree.node a (p :: ps)).txtsTo 0 = []) := rfl
      have HLB : Hid (∀ m, ((Tree.node a (p :: ps)).txtsTo m).length ≤ 24000) := fun m => Nat.le_trans (txtsTo_len _ _) hsz
      have hkl := kidsOf_length p.atom.data.toList (ps.length + 1) (by omega)
      have hkg := kidsOf_get p.atom.data.toList (ps.length + 1) (by omega)
      have HK1' : Hid (Calls Try.prog 74 #[.agg #[.string a, .slice (some ⟨b, off, none⟩) (ps.length + 1) c]] (w1.alloc (.cells #[.string a, .slice (some ⟨b, off, none⟩) (ps.length + 1) c] 46)) (KidsR (kidsOf p.atom.data.toList (ps.length + 1)) (w1.alloc (.cells #[.string a, .slice (some ⟨b, off, none⟩) (ps.length + 1) c] 46)))) := HK1.out
      rw [hk] at hkl hkg
      generalize kidsOf p.atom.data.toList (ps.length + 1) = ks at *
      have hll := Tree.length_le_szL (p :: ps)
      have hlN : ps.length + 1 ≤ 24000 := by simp only [Tree.sz, List.length_cons] at hsz hll; omega
      simp only [List.length_cons] at hcap HB B1 x1 y1 hB1 hl1
      have HRC : Hid (∀ W, Below w1.heap.size w1 W → RepC W (fun z => w.heap.size ≤ z) (p :: ps) b off) := fun W h => RepC.keep (Keeps.below h) hA _ _ hc
      have hlk : 0 < ks.length := by omega
      have hlk2 : ks.length ≤ ps.length + 1 := by omega
      have HKL := Lib.hid hkl
      have HKG := Lib.hid hkg
      generalize (Tree.node a (p :: ps)).kidL.map Tree.txt = R at *
      generalize (Tree.node a (p :: ps)).txtsTo = L at *
      have hw1 := hb1.size
      clear hge hg hgl hs' hc hexp htx hsz hpp hk hk2 hb1 hll HK1 hkl hkg
      go_wp2_with fail
      refine HK1'.out.mono ?_
      rintro e w2 ⟨hb2, hks⟩
      have B2 := Below.next B1 hb2; obtain ⟨x2, y2, hB2, hl2⟩ := boxed B2; clear hb2
      rcases hks with ⟨h, rfl⟩ | ⟨-, bk, ck, rfl, hbk, hck, hkc⟩
      · exact absurd h (by intro h; rw [h] at hlk; simp at hlk)
      have hbk1 : bk < w2.heap.size := by
        obtain ⟨q, hq⟩ : ∃ q, ks[0]? = some q := ⟨ks[0]'hlk, by simp⟩
        exact lt_of_cell (hkc 0 q hq)
      have HKC := Lib.hid hkc
      clear hkc hbk
      go_wp2
      go_loopw [19, 6] (fun iv lu wr => ∃ (m : Nat) (lv : Value), m ≤ ks.length ∧ iv = .int .i64 m ∧ lv = lu ∧ Hid (SRow wr w2.heap.size lv (L m)) ∧ Below w2.heap.size w2 wr) (fun iv _ _ => ks.length - (intOf iv).toNat)
      case atStart => exact ⟨0, _, Nat.zero_le _, rfl, rfl, by rw [HZ.out]; exact SRow.nil _ _, Below.refl _ _⟩
      case round =>
        obtain ⟨m, lv, hm, rfl, rfl, HRR, hbr⟩ := hrel
        have B3 := Below.next B2 hbr
        obtain ⟨x3, y3, hB3, hl3⟩ := boxed B3
        have hsr2 := hbr.size
        by_cases hlt : m < ks.length
        · obtain ⟨i, HI, hi⟩ : ∃ i, Hid (i = k + m) ∧ i < ps.length + 1 := ⟨k + m, rfl, by have := HKL.out; omega⟩
          have hcell : wr.cell? ⟨bk, m, none⟩ = some (.int .i64 (i : Int)) := by
            have h1 := HKC.out m (k + m) (HKG.out m (by have := HKL.out; omega))
            rw [HI.out]
            exact (hbr.cell hbk1).trans h1
          obtain ⟨q, hq⟩ : ∃ q, (p :: ps)[i]? = some q := ⟨(p :: ps)[i]'(by simpa using hi), by simp⟩
          obtain ⟨o', n', c', hx, hy, hrp⟩ := (HRC.out _ hB3).nth i (p := q) (k := off + i * 2) hq rfl
          obtain ⟨h4, h5, h6⟩ := HPP.out i q hq
          have HT := Lib.hid (HS.out m q (by rw [← HI.out]; exact hq))
          have HCl := Lib.hid (text_any q _ _ wr hrp (by omega) (by omega))
          rw [show bts q.text = q.txt from rfl] at HCl
          have HLEN := Lib.hid (HLB.out m)
          generalize q.txt = P at HCl HT
          clear hq hrp h4 h5 h6
          obtain ⟨vo, vc, rfl, -⟩ := HRR.out.forms
          go_wp2_with fail
          refine HCl.out.mono ?_
          rintro e w3 ⟨rfl, hb3⟩
          have HR2 := Lib.hid (HRR.out.below hb3)
          have hbr2 := hbr.trans (hb3.mono (by omega))
          have hs2 := hbr2.size
          clear hb3 HCl
          go_wp2_with (at_builtin; refine wpList_append_str rfl (.tmp 23) (.tmp 30) rfl w2.heap.size _ rfl (L m) _ 1 rfl P (by simp) HR2.out (by have := HLEN.out; omega) (by omega) ?_; intro g2 cap2 w4 hrow3 hg3 hown3)
          have HR3 := Lib.hid hrow3
          have hbr3 := (hbr2.alloc hs2 (.cells #[.string P] 9)).grown hg3 (by simp; omega) (fun j hj => (HR2.out.lt j hj).1)
          clear hrow3 hg3 hown3
          go_wp2
          go_roundw
          case rel => exact ⟨m + 1, _, by omega, by go_num, rfl, by rw [HT.out]; exact HR3, hbr3⟩
          case measure => simp [intOf]; omega
        · have HF : Hid (SRow wr w2.heap.size lv R) := by
            have := HRR.out
            rw [HE.out m (by have := HKL.out; omega)] at this
            exact this
          have hBF : Below w.heap.size w wr := HB.out.trans ((Below.next (show Below (w1.heap.size + 1) _ _ from B2) hbr).mono (by omega))
          have hw2 : w.heap.size ≤ w2.heap.size := by have := hB2.size; omega
          clear HRR
          obtain ⟨vo, vc, rfl, -⟩ := HF.out.forms
          go_wp2
          go_ret2
          exact ⟨.slice vo R.length vc, by rw [HR.out]; rfl, by rw [HR.out]; exact HF.out.mono hw2, hBF⟩
end Go.Proofs.Ytnhmbncamimehaa
