/- How often a name stands free, of the program and of the reference. -/
import Derived.Test.YtoihkjnfklogpaaFreeT
import Derived.Test.YtoihkjnfklogpaaExprM
namespace Go.Proofs.Ytoihkjnfklogpaa
open Go.RowKit

theorem hasS_any (l : List ByteArray) (s : ByteArray) : hasS l s = l.any fun x => x.toList == s.toList := rfl

set_option maxRecDepth 100000 in
set_option maxHeartbeats 3200000 in
theorem l2Count_any (name : ByteArray) (hname : name.size ≤ 1000000000) (n : Nat) : ∀ (t : Tree) (A : Nat → Prop) (v : Value) (w : World), t.sz ≤ n → Rep w A t v → t.sz ≤ 24000 → t.text.length ≤ 12000 → t.good = true → t.isExpr = true →
    Calls Try.prog 45 #[v, .string name] w fun e w' => e = .returned (.int .i64 (t.cnt name)) ∧ Below w.heap.size w w' := by
  induction n with
  | zero => intro t A v w h; cases t; simp [Tree.sz] at h
  | succ n ih =>
    intro t A v w hn hr hb htx hgood hexp
    obtain ⟨s, ps⟩ := t
    have hr' := hr
    simp only [Rep] at hr
    obtain ⟨o, l, c, rfl, hs, hcap⟩ := hr
    obtain rfl := hs.len
    obtain ⟨hgl, hge⟩ := Tree.good_parts hgood
    cases ps with
    | nil =>
      have B0 := boxed0 w (.string s) (.slice o 0 c) 40
      obtain ⟨x0, y0, hB0, hl0⟩ := boxed B0
      have hemp : s.toList.isEmpty = false := by rw [Lib.toList_data]; simpa using hge.1 rfl
      have hemp2 : (s.toList == []) = false := by rw [Lib.toList_data]; simpa using hge.1 rfl
      have HT : Hid ((Tree.node s []).cnt name = if s.toList == name.toList then 1 else 0) := cnt_leaf _ _
      clear hge hgl hgood hs hexp ih hr' hb htx
      cases he : (s.toList == name.toList)
      all_goals
        have HE : Hid ((Tree.node s []).cnt name = _) := HT.out.trans (by rw [he])
        go_enter Try.func45, Try.ntmps45
        go_wp2
        go_ret
        exact ⟨ret_int (by rw [HE.out]; rfl), hB0⟩
    | cons p ps =>
      have hse : s.data.toList = [] := Classical.byContradiction fun h => absurd (hge.2 h) (by simp)
      have hemp : s.toList.isEmpty = true := by rw [Lib.toList_data, hse]; rfl
      have hemp2 : (s.toList == []) = true := by rw [Lib.toList_data, hse]; rfl
      obtain ⟨b, off, rfl, hA, hc⟩ := hs.uncons
      obtain ⟨k, hk, hk2, hk1, hkn, -, hkx⟩ := expr_cases hexp
      have hne : (Tree.node s (p :: ps)).parts ≠ [] := by simp [Tree.parts]
      have hpp : ∀ (i : Nat) (q : Tree), k ≤ i → (p :: ps)[i]? = some q → q.sz ≤ n ∧ q.sz ≤ 24000 ∧ q.text.length ≤ 12000 ∧ q.good = true ∧ q.isExpr = true := fun i q hi hq => by
        have h1 := Tree.part_sz (t := .node s (p :: ps)) (List.mem_of_getElem? hq)
        have h2 := text_part_le (a := s) (List.mem_of_getElem? hq)
        exact ⟨by omega, by omega, by omega, Tree.good_part _ _ _ hq hgl, hkx i q hi hq⟩
      have hkg := kidsOf_get p.atom.data.toList (ps.length + 1) (by omega)
      have hkl := kidsOf_length p.atom.data.toList (ps.length + 1) (by omega)
      rw [hk] at hkg hkl
      have HL : Hid (∀ m, (Tree.node s (p :: ps)).cntTo name m ≤ 24000) := fun m => Nat.le_trans (cntTo_le _ name m hne) hb
      have HS : Hid (∀ (i : Nat) (q : Tree), k ≤ i → i < ps.length + 1 → (p :: ps)[i]? = some q → (Tree.node s (p :: ps)).cntTo name (i + 1 - k) = (Tree.node s (p :: ps)).cntTo name (i - k) + (if hasS ((Tree.node s (p :: ps)).bindsAt i) name = true then 0 else q.cnt name)) := fun i q hi hil hq => by
        have h1 : (kidsOf (Tree.node s (p :: ps)).hd.data.toList (Tree.node s (p :: ps)).parts.length)[i - k]? = some i := by
          have := hkg (i - k) (by omega)
          rw [show k + (i - k) = i from by omega] at this
          exact this
        have h2 : nth (Tree.node s (p :: ps)).parts i = q := nth_of hq
        have h3 := cntTo_succ name h1
        rw [h2] at h3
        rw [show i + 1 - k = (i - k) + 1 from by omega]
        exact h3
      have HE : Hid (∀ i, ps.length + 1 ≤ i → (Tree.node s (p :: ps)).cntTo name (i - k) = (Tree.node s (p :: ps)).cnt name) := fun i hi => cntTo_end name hne (by show (kidsOf p.atom.data.toList (ps.length + 1)).length ≤ _; omega)
      have HZ : Hid ((Tree.node s (p :: ps)).cntTo name (k - k) = 0) := by show _ = _; rw [Nat.sub_self]; exact cntTo_zero _ _
      have HBI := Lib.hid (fun (i : Nat) A v w hr hi => l2Binds_any s p ps i A v w hr hexp hi)
      have HBL : Hid (∀ i, ((Tree.node s (p :: ps)).bindsAt i).length ≤ 2) := fun i => bindsAt_len _ i
      have HK := Lib.hid (l2Kids_any p.atom)
      rw [hk2] at HK
      have B0 := boxed0 w (.string s) (.slice (some ⟨b, off, none⟩) (ps.length + 1) c) 40
      obtain ⟨x0, y0, hB0, hl0⟩ := boxed B0
      have hll := Tree.length_le_szL (p :: ps)
      have hlN : ps.length + 1 ≤ 24000 := by simp only [Tree.sz, List.length_cons] at hb hll; omega
      simp only [List.length_cons] at hcap hll
      have HRC : Hid (∀ W, Below w.heap.size w W → RepC W A (p :: ps) b off) := fun W h => RepC.keep (Keeps.below h) hA _ _ hc
      have HR : Hid (∀ W, Below w.heap.size w W → Rep W A (.node s (p :: ps)) (.agg #[.string s, .slice (some ⟨b, off, none⟩) (ps.length + 1) c])) := fun W h => Rep.keep (Keeps.below h) _ _ hr'
      obtain ⟨o0, n0, c0, ca0, cb0, r0⟩ := (HRC.out _ hB0).nth 0 (k := off) rfl rfl
      have HQ := Lib.hid (fun (i : Nat) (q : Tree) (hi : k ≤ i) (hq : (p :: ps)[i]? = some q) v w' hr => ih q A v w' (hpp i q hi hq).1 hr (hpp i q hi hq).2.1 (hpp i q hi hq).2.2.1 (hpp i q hi hq).2.2.2.1 (hpp i q hi hq).2.2.2.2)
      clear hc hs hse hge hgood hgl ih hexp hkx hpp hk2 hk hb hn htx hr' hkg hkl hne
      generalize (Tree.node s (p :: ps)).cnt name = R at *
      generalize (Tree.node s (p :: ps)).cntTo name = M at *
      generalize (Tree.node s (p :: ps)).bindsAt = BI at *
      go_enter Try.func45, Try.ntmps45
      go_wp2_with fail
      refine (HK.out _).mono ?_
      rintro e w1 ⟨rfl, rfl⟩
      go_wp2
      go_loopw [5, 8] (fun nv iv wr => ∃ i : Nat, k ≤ i ∧ i ≤ ps.length + 1 ∧ iv = .int .i64 i ∧ nv = .int .i64 (M (i - k) : Nat) ∧ Below (w.heap.size + 1) (w.alloc (.cells #[.string s, .slice (some ⟨b, off, none⟩) (ps.length + 1) c] 40)) wr) (fun _ iv _ => ps.length + 1 - (intOf iv).toNat)
      case atStart => exact ⟨k, Nat.le_refl _, by omega, rfl, by rw [HZ.out]; rfl, B0⟩
      case round =>
        obtain ⟨i, hi1, hi, rfl, rfl, hbr⟩ := hrel
        obtain ⟨x1, y1, hB1, hl1⟩ := boxed hbr
        by_cases hlt : i < ps.length + 1
        · obtain ⟨q, hq⟩ : ∃ q, (p :: ps)[i]? = some q := ⟨(p :: ps)[i]'(by simpa using hlt), by simp⟩
          have h1 := HS.out i q hi1 hlt hq
          have HN := Lib.hid h1
          have HQQ := Lib.hid hq
          have HBC := Lib.hid (HBI.out i A _ _ (HR.out _ hB1) (by omega))
          have hbl := HBL.out i
          have hM1 := HL.out (i - k)
          have hM2 := HL.out (i + 1 - k)
          clear hq h1
          go_wp2_with fail
          refine HBC.out.mono ?_
          rintro e w2 ⟨v2, rfl, hrow2, hb2⟩
          obtain ⟨vo, vc, rfl, hst⟩ := hrow2.forms
          have HHS := Lib.hid (l1Has_any (BI i) name vo (BI i).length vc w2 hst (by omega))
          have B2 := hbr.next hb2
          obtain ⟨x2, y2, hB2, hl2⟩ := boxed B2
          clear hrow2 hst HBC
          go_wp2_with fail
          refine HHS.out.mono ?_
          rintro e w3 ⟨rfl, rfl⟩
          cases hh : hasS (BI i) name
          · have HN2 : Hid (M (i + 1 - k) = M (i - k) + q.cnt name) := by show _ = _; rw [HN.out, hh]; rfl
            have h3 : M (i - k) + q.cnt name ≤ 1000000000 := by have := HN2.out; omega
            obtain ⟨o', n', c', hx, hy, hrp⟩ := (HRC.out _ hB2).nth i (p := q) (k := off + i * 2) HQQ.out rfl
            have HCl := Lib.hid (HQ.out i q hi1 HQQ.out _ w2 hrp)
            clear hh hrp HHS
            go_wp2_with fail
            refine HCl.out.mono ?_
            rintro e wq ⟨rfl, hbq⟩
            have hB3 := B2.next hbq
            go_wp2
            go_roundw
            case rel => exact ⟨i + 1, by omega, by omega, by go_num, by rw [HN2.out]; go_num, hB3⟩
            case measure => simp [intOf]; omega
          · have HN2 : Hid (M (i + 1 - k) = M (i - k)) := by show _ = _; rw [HN.out, hh]; rfl
            clear hh HHS
            go_wp2
            go_roundw
            case rel => exact ⟨i + 1, by omega, by omega, by go_num, by rw [HN2.out], B2⟩
            case measure => simp [intOf]; omega
        · go_wp2
          go_ret
          exact ⟨ret_int (by rw [HE.out i (by omega)]), hB1⟩

/-- The box of the name that is counted, and the box of the count. -/
def CountI (B bn bc : Nat) (name : ByteArray) (l : List ByteArray) (O : Nat → Prop) (w : World) : Prop :=
  B ≤ bc ∧ bn < B ∧ w.heap[bn]? = some (.cells #[.string name] 9 (0, 0)) ∧ w.heap[bc]? = some (.cells #[.int .i64 ((l.countP (isN name) : Nat) : Int)] 3 (0, 0)) ∧ ∀ k, O k ↔ k = bc

theorem CountI.below {B bn bc : Nat} {name : ByteArray} {l : List ByteArray} {O : Nat → Prop} {w w' : World} (h : CountI B bn bc name l O w) (hb : Below w.heap.size w w') : CountI B bn bc name l O w' := by
  obtain ⟨h1, h2, h3, h4, h5⟩ := h
  exact ⟨h1, h2, (hb.block _ (Array.getElem?_eq_some_iff.1 h3).1).trans h3, (hb.block _ (Array.getElem?_eq_some_iff.1 h4).1).trans h4, h5⟩
theorem CountI.own {B bn bc : Nat} {name : ByteArray} {l : List ByteArray} {O : Nat → Prop} {w : World} (h : CountI B bn bc name l O w) : B ≤ w.heap.size ∧ ∀ k, O k → B ≤ k ∧ k < w.heap.size := by
  obtain ⟨h1, h2, h3, h4, h5⟩ := h
  have h6 := (Array.getElem?_eq_some_iff.1 h4).1
  refine ⟨by omega, fun k hk => ?_⟩
  obtain rfl := (h5 k).1 hk
  exact ⟨h1, h6⟩

set_option maxRecDepth 100000 in
set_option maxHeartbeats 800000 in
theorem count1_any (B bn bc : Nat) (name : ByteArray) (l : List ByteArray) (O : Nat → Prop) (s : ByteArray) (w : World) (h : CountI B bn bc name l O w) (hl : l.length ≤ 1000000) (_hs : s.size ≤ 1000000000) :
    Calls Try.prog 43 (#[.string s] ++ #[.pointer (some ⟨bn, 0, none⟩), .pointer (some ⟨bc, 0, none⟩)]) w (ToldK (CountI B bn bc name) B (l ++ [s]) O w) := by
  obtain ⟨hBw, hOw⟩ := h.own
  obtain ⟨h1, h2, h3, h4, h5⟩ := h
  obtain ⟨cn, fn⟩ := one_cellF h3
  obtain ⟨cc, fc⟩ := one_cellF h4
  have hlc := (Array.getElem?_eq_some_iff.1 h4).1
  have hle : l.countP (isN name) ≤ 1000000 := Nat.le_trans List.countP_le_length hl
  have hstep : (l ++ [s]).countP (isN name) = l.countP (isN name) + (if s.toList == name.toList then 1 else 0) := by rw [List.countP_append, List.countP_singleton]; rfl
  have H3 := Lib.hid h3
  have H4 := Lib.hid h4
  have H5 := Lib.hid h5
  have HS := Lib.hid hstep
  generalize l.countP (isN name) = z at *
  clear h3 h4 h5 hstep
  cases he : (s.toList == name.toList)
  · have HZ : Hid ((l ++ [s]).countP (isN name) = z) := HS.out.trans (by rw [he]; rfl)
    go_enter Try.func43, Try.ntmps43
    go_wp2
    go_end0
    exact ⟨rfl, O, ⟨h1, h2, H3.out, by rw [HZ.out]; exact H4.out, H5.out⟩, fun k h => .inl h, fun _ _ _ => rfl, Below.refl _ _⟩
  · have HZ : Hid ((l ++ [s]).countP (isN name) = z + 1) := HS.out.trans (by rw [he]; rfl)
    go_enter Try.func43, Try.ntmps43
    go_wp2
    go_end0
    refine ⟨rfl, O, ⟨h1, h2, ?_, by rw [HZ.out]; exact Lib.heap_setCell_same (i := 0) H4.out _, H5.out⟩, fun k h => .inl h, ?_, (Below.refl _ _).setCell h1 _⟩
    · rw [Below.heap_setCell _ _ _ _ (by simp; omega)]; exact H3.out
    · intro k hk hno
      have hkb : k ≠ bc := fun e => hno ((H5.out k).2 e)
      rw [Below.heap_setCell _ _ _ _ (by simpa using hkb)]

/-- How often a name stands free in a text; -1 for no expression or no name. -/
def countOf (s name : ByteArray) : Int := if nameB name.data.toList then numE (Tree.cnt name) (pexpr s.data.toList) else -1

set_option maxRecDepth 100000 in
set_option maxHeartbeats 1600000 in
theorem sExprCount_any (s name : ByteArray) (w : World) (hs : s.size ≤ 1000000000) (hn : name.size ≤ 1000000000) :
    Calls Try.prog 18 #[.string s, .string name] w fun e w' => e = .returned (.int .i64 (countOf s name)) ∧ Below w.heap.size w w' := by
  have HC := Lib.hid (fun W => l2Parse_any s W hs)
  have HM := Lib.hid (fun W => l2Name_any name W hn)
  go_enter Try.func18, Try.ntmps18
  go_wp2_with fail
  refine (HC.out _).mono ?_
  rintro e w1 ⟨a, o, l, c, ok, t, rfl, hb1, hr, hok, ht⟩
  cases hp : pexpr s.data.toList with
  | none =>
    rw [hp] at hok
    have hok' : ok = false := hok
    subst hok'
    have HP : Hid (countOf s name = -1) := by show _ = _; unfold countOf; rw [hp]; split <;> rfl
    clear hok ht hp hr
    go_wp2
    go_ret
    exact ⟨ret_int (by rw [HP.out]), hb1.alloc hb1.size _⟩
  | some t' =>
    rw [hp] at hok
    have hok' : ok = true := hok
    subst hok'
    obtain rfl := ht _ hp
    obtain ⟨hg, hsz, htx, he, -⟩ := pexpr_facts hp
    have HP : Hid (countOf s name = if nameB name.data.toList then (t.cnt name : Int) else -1) := by show _ = _; unfold countOf; rw [hp]; rfl
    have HK := Lib.hid (l2Count_any name hn _ t _ _ (w1.alloc (.cells #[.string a, .slice o l c] 40)) (Nat.le_refl _) (Rep.keep (Keeps.alloc _ _ _) _ _ hr) hsz htx hg he)
    have hB1 : Below w.heap.size w (w1.alloc (.cells #[.string a, .slice o l c] 40)) := hb1.alloc hb1.size _
    generalize nameB name.data.toList = b at HM HP
    clear hok ht hp hr hg hsz htx he
    cases b
    · go_wp2_with fail
      refine (HM.out _).mono ?_
      rintro e w2 ⟨rfl, rfl⟩
      go_wp2
      go_ret
      exact ⟨ret_int (by rw [HP.out]; rfl), hB1⟩
    · go_wp2_with fail
      refine (HM.out _).mono ?_
      rintro e w2 ⟨rfl, rfl⟩
      go_wp2_with fail
      refine HK.out.mono ?_
      rintro e w3 ⟨rfl, hb3⟩
      go_wp2
      go_ret
      exact ⟨ret_int (by rw [HP.out]; rfl), hB1.trans (hb3.mono hB1.size)⟩

set_option maxRecDepth 100000 in
set_option maxHeartbeats 1600000 in
theorem exprCount_any (s name : ByteArray) (w : World) (hs : s.size ≤ 1000000000) (hn : name.size ≤ 1000000000) :
    Calls Try.prog 17 #[.string s, .string name] w fun e w' => e = .returned (.int .i64 (countOf s name)) ∧ Below w.heap.size w w' := by
  have HC := Lib.hid (fun W => readExpr_any s W hs)
  have HM := Lib.hid (fun W => isName_any name W hn)
  have hb0 : Below w.heap.size w (w.alloc (.cells #[.string name] 9)) := (Below.refl _ _).alloc (Nat.le_refl _) _
  have hx0 := heap_alloc_new w (.cells #[.string name] 9)
  have HX0 := Lib.hid hx0
  clear hx0
  go_enter Try.func17, Try.ntmps17
  go_wp2_with fail
  refine (HC.out _).mono ?_
  rintro e w1 ⟨a, o, l, c, ok, t, rfl, hb1, hr, hok, ht⟩
  have hsz1 := hb1.size
  simp only [World.size_alloc] at hsz1
  have hx1 := (hb1.block w.heap.size (by simp)).trans HX0.out
  have HX1 := Lib.hid hx1
  obtain ⟨cn, fn⟩ := one_cellF hx1
  have hbw1 : Below w.heap.size w w1 := hb0.trans (hb1.mono (by simp))
  have hB1 : Below w.heap.size w (w1.alloc (.cells #[.string a, .slice o l c] 46)) := hbw1.alloc hbw1.size _
  have hlw : w.heap.size < w1.heap.size := by omega
  clear hx1
  cases hp : pexpr s.data.toList with
  | none =>
    rw [hp] at hok
    have hok' : ok = false := hok
    subst hok'
    have HP : Hid (countOf s name = -1) := by show _ = _; unfold countOf; rw [hp]; split <;> rfl
    clear hok ht hp hr hb1
    go_wp2
    go_ret
    exact ⟨ret_int (by rw [HP.out]), hB1⟩
  | some t' =>
    rw [hp] at hok
    have hok' : ok = true := hok
    subst hok'
    obtain rfl := ht _ hp
    obtain ⟨hg, hsz, htx, he, -⟩ := pexpr_facts hp
    have HP : Hid (countOf s name = if nameB name.data.toList then (t.cnt name : Int) else -1) := by show _ = _; unfold countOf; rw [hp]; rfl
    by_cases hnm : nameB name.data.toList = true
    rotate_left
    · have hnm' : nameB name.data.toList = false := by simpa using hnm
      rw [hnm'] at HM HP
      clear hok ht hp hr hg hsz htx he hb1 hnm hnm'
      go_wp2_with fail
      refine (HM.out _).mono ?_
      rintro e w2 ⟨rfl, rfl⟩
      go_wp2
      go_ret
      exact ⟨ret_int (by rw [HP.out]; rfl), hB1⟩
    · have hcnt := occ_cnt name hnm _ t [] (Nat.le_refl _)
      rw [if_neg (by simp)] at hcnt
      have hrb := Rep.bound _ _ hr
      have hb2 : Below w.heap.size w ((w1.alloc (.cells #[.string a, .slice o l c] 46)).alloc (.cells #[.int .i64 0] 3)) := hB1.alloc hB1.size _
      have hci : CountI w1.heap.size w.heap.size (w1.heap.size + 1) name [] (fun k => k = w1.heap.size + 1) ((w1.alloc (.cells #[.string a, .slice o l c] 46)).alloc (.cells #[.int .i64 0] 3)) := by
        refine ⟨Nat.le_succ _, hlw, ?_, ?_, fun k => Iff.rfl⟩
        · exact (Lib.alloc_old _ _ _ (by simp; omega)).trans ((Lib.alloc_old _ _ _ hlw).trans HX1.out)
        · have h := heap_alloc_new (w1.alloc (.cells #[.string a, .slice o l c] 46)) (.cells #[.int .i64 0] 3)
          rw [World.size_alloc] at h
          exact h
      have HF := Lib.hid (free_any 43 (fun _ _ => by kernel_rfl) #[.pointer (some ⟨w.heap.size, 0, none⟩), .pointer (some ⟨w1.heap.size + 1, 0, none⟩)] (CountI w1.heap.size w.heap.size (w1.heap.size + 1) name) w1.heap.size 1000000 (fun _ _ _ _ h hb => h.below hb) (fun _ _ _ h => h.own) (fun l O s w h hl hs => count1_any _ _ _ _ l O s w h hl hs) _ t _ _ [] [] (fun k => k = w1.heap.size + 1) none 0 0 _ (Nat.le_refl _) (Rep.keep ((Keeps.alloc _ w1 (.cells #[.string a, .slice o l c] 46)).alloc' (.cells #[.int .i64 0] 3)) _ _ hrb) (fun b hb => hb.2) (Strs.nil _ _) (fun a ha => by cases ha) hci (by simp <;> omega) (by simp <;> omega) hsz htx hg he)
      rw [List.nil_append] at HF
      have HB2 := Lib.hid hb2
      have HCN := Lib.hid hcnt
      rw [hnm] at HM HP
      generalize Tree.occ [] t = res at *
      clear hok ht hp hr hg hsz htx he hb1 hnm hrb hb2 hci hcnt
      go_wp2_with fail
      refine (HM.out _).mono ?_
      rintro e w2 ⟨rfl, rfl⟩
      go_wp2_with fail
      refine HF.out.mono ?_
      rintro e w3 ⟨rfl, O', ⟨-, -, -, h4, -⟩, -, -, hb3⟩
      rw [HCN.out] at h4
      obtain ⟨cc, fc⟩ := one_cellF h4
      have HB3 := Lib.hid (HB2.out.trans (hb3.mono (Nat.le_of_lt hlw)))
      clear h4 hb3
      go_wp2
      go_ret
      exact ⟨ret_int (by rw [HP.out]; rfl), HB3.out⟩
end Go.Proofs.Ytoihkjnfklogpaa
