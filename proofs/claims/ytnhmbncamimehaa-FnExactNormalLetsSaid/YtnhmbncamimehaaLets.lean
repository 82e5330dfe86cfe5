/- Bindings of normal expressions, of the program and of the reference. -/
import Derived.Test.YtnhmbncamimehaaNorm
import Derived.Test.YtnhmbncamimehaaExprM
namespace Go.Proofs.Ytnhmbncamimehaa
open Go.RowKit

/-- A text that is a normal expression. -/
def pnorm (s : List UInt8) : Option Tree := match pexpr s with
  | some t => if t.nrm true then some t else none
  | none => none
theorem pnorm_some {s : List UInt8} {t : Tree} : pnorm s = some t ↔ pexpr s = some t ∧ t.nrm true = true := by
  unfold pnorm
  cases pexpr s with
  | none => simp
  | some u =>
    show (if u.nrm true = true then some u else none) = some t ↔ _
    by_cases h : u.nrm true = true
    · rw [if_pos h]
      exact ⟨fun e => ⟨e, by rw [← Option.some.inj e]; exact h⟩, fun e => e.1⟩
    · rw [if_neg h]
      exact ⟨fun e => (by cases e), fun e => absurd (by rw [Option.some.inj e.1]; exact e.2) h⟩
theorem pnorm_isSome (s : List UInt8) : (pnorm s).isSome = isOf (Tree.nrm true) (pexpr s) := by
  unfold pnorm isOf
  cases pexpr s with
  | none => rfl
  | some t => cases h : t.nrm true <;> simp [h]

set_option maxRecDepth 100000 in
set_option maxHeartbeats 1600000 in
theorem l5Lets_any (n : Nat) : ∀ (t : Tree) (A : Nat → Prop) (v : Value) (w : World), t.sz ≤ n → Rep w A t v → t.sz ≤ 1000000000 → t.good = true →
    Calls Try.prog 58 #[v] w fun e w' => e = .returned (.int .i64 t.letsP) ∧ Below w.heap.size w w' := by
  induction n with
  | zero => intro t A v w h; cases t; simp [Tree.sz] at h
  | succ n ih =>
    intro t A v w hn hr hb hgood
    have HHD := Lib.hid (fun v w hr => l4Head_any t A v w hr hgood)
    have HL := Lib.hid (letsPTo_le t)
    have HZ := Lib.hid (letsPTo_zero t)
    have HE : Hid (∀ i, t.parts.length ≤ i → t.letsPTo i = t.letsP) := fun i hi => letsPTo_end hi
    obtain ⟨s, ps⟩ := t
    have hr' := hr
    simp only [Rep] at hr
    obtain ⟨o, l, c, rfl, hs, hcap⟩ := hr
    obtain rfl := hs.len
    obtain ⟨hgl, hge⟩ := Tree.good_parts hgood
    have B0 := boxed0 w (.string s) (.slice o ps.length c) 42
    obtain ⟨x0, y0, hB0, hl0⟩ := boxed B0
    have HR : Hid (∀ W, Below w.heap.size w W → Rep W A (.node s ps) (.agg #[.string s, .slice o ps.length c])) := fun W h => Rep.keep (Keeps.below h) _ _ hr'
    have HRS : Hid (∀ W, Below w.heap.size w W → RepS W A ps o ps.length) := fun W h => RepS.keep (Keeps.below h) _ _ _ hs
    have HS : Hid (∀ (i : Nat) (q : Tree), ps[i]? = some q → (Tree.node s ps).letsPTo (i + 1) = (Tree.node s ps).letsPTo i + q.letsP) := fun i q hq => letsPTo_succ hq
    have HQ := Lib.hid (fun (i : Nat) (q : Tree) (hq : ps[i]? = some q) v w' hr => ih q A v w' (by have := Tree.sz_part _ _ _ hq; simp only [Tree.sz] at hn; omega) hr (by have := Tree.sz_part _ _ _ hq; simp only [Tree.sz] at hb; omega) (Tree.good_part _ _ _ hq hgl))
    have hlN : ps.length ≤ 1000000000 := by have := Tree.length_le_szL ps; simp only [Tree.sz] at hb; omega
    have hML : (Tree.node s ps).sz ≤ 1000000000 := hb
    generalize (Tree.node s ps).sz = SZ at HL hML
    clear ih hs hr' hgl hge hgood hn hb
    generalize (Tree.node s ps).letsPTo = M at *
    generalize (Tree.node s ps).letsP = R at *
    generalize (Tree.node s ps).hd = H at *
    simp only [Tree.parts] at HE
    by_cases hlet : H.data.toList = [108, 101, 116]
    all_goals
      first
        | have e7 : (H.toList == [108, 101, 116]) = true := by rw [Lib.toList_data, hlet]; rfl
          have HZ2 : Hid (M 0 = 1) := by show _ = _; rw [HZ.out, if_pos hlet]
        | have e7 : (H.toList == [108, 101, 116]) = false := by rw [Lib.toList_data]; simpa using hlet
          have HZ2 : Hid (M 0 = 0) := by show _ = _; rw [HZ.out, if_neg hlet]
      clear hlet HZ
      go_enter Try.func58, Try.ntmps58
      go_wp2_with fail
      refine (HHD.out _ _ (HR.out _ hB0)).mono ?_
      rintro e w1 ⟨rfl, hb1⟩
      have B1 := Below.next B0 hb1; obtain ⟨x1, y1, hB1, hl1⟩ := boxed B1; clear hb1
      go_wp2
      go_loopw [3, 4] (fun nv iv wr => ∃ i : Nat, i ≤ ps.length ∧ iv = .int .i64 i ∧ nv = .int .i64 (M i : Nat) ∧ Below (w.heap.size + 1) (w.alloc (.cells #[.string s, .slice o ps.length c] 42)) wr) (fun _ iv _ => ps.length - (intOf iv).toNat)
      case atStart => exact ⟨0, Nat.zero_le _, rfl, by rw [HZ2.out]; rfl, B1⟩
      case round =>
        obtain ⟨i, hi, rfl, rfl, hbr⟩ := hrel
        obtain ⟨x2, y2, hB2, hl2⟩ := boxed hbr
        by_cases hlt : i < ps.length
        · obtain ⟨q, hq⟩ : ∃ q, ps[i]? = some q := ⟨ps[i], by simp [hlt]⟩
          obtain ⟨b, off, o', n', c', ho, -, hx, hy, hrp⟩ := (HRS.out _ hB2).partAt hq
          subst ho
          have HCl := Lib.hid (HQ.out i q hq _ wr hrp)
          have h1 := HS.out i q hq
          have h2 := HL.out (i + 1)
          have h3 : M i + q.letsP ≤ 1000000000 := by omega
          have HN := Lib.hid h1
          clear hq h1 h2
          go_wp2_with fail
          refine HCl.out.mono ?_
          rintro e wq ⟨rfl, hbq⟩
          have hB3 := hbr.next hbq
          go_wp2
          go_roundw
          case rel => exact ⟨i + 1, by omega, by go_num, by rw [HN.out]; go_num, hB3⟩
          case measure => simp [intOf]; omega
        · go_wp2
          go_ret
          exact ⟨ret_int (by rw [HE.out i (by omega)]), hB2⟩

set_option maxRecDepth 100000 in
set_option maxHeartbeats 1600000 in
theorem lets_any (n : Nat) : ∀ (t : Tree) (A : Nat → Prop) (v : Value) (w : World), t.sz ≤ n → Rep w A t v → t.sz ≤ 1000000000 → t.isExpr = true →
    Calls Try.prog 60 #[v] w fun e w' => e = .returned (.int .i64 t.lets) ∧ Below w.heap.size w w' := by
  induction n with
  | zero => intro t A v w h; cases t; simp [Tree.sz] at h
  | succ n ih =>
    intro t A v w hn hr hb hexp
    have hln : t.parts.length ≤ 1000000000 := by cases t with | node a ps => have := Tree.length_le_szL ps; simp only [Tree.sz, Tree.parts] at *; omega
    have HHD := Lib.hid (fun v w hr => head_any t A v w hr hln)
    have HKI := Lib.hid (fun v w hr => kids_any t A v w hr hln)
    obtain ⟨s, ps⟩ := t
    have hr' := hr
    simp only [Rep] at hr
    obtain ⟨o, l, c, rfl, hs, hcap⟩ := hr
    obtain rfl := hs.len
    have B0 := boxed0 w (.string s) (.slice o ps.length c) 46
    obtain ⟨x0, y0, hB0, hl0⟩ := boxed B0
    cases ps with
    | nil =>
      have HT : Hid ((Tree.node s []).lets = 0) := by show _ = _; rw [Tree.lets_eq, Tree.kidL_leaf]; rfl
      have HHD' : Hid (∀ v w, Rep w A (.node s []) v → Calls Try.prog 50 #[v] w fun e w' => e = .returned (.string ⟨#[]⟩) ∧ Below w.heap.size w w') := HHD.out
      have HK0 : Hid (kidsOf (Tree.hd (.node s [])).data.toList (Tree.parts (.node s [])).length = []) := rfl
      have HR : Hid (∀ W, Below w.heap.size w W → Rep W A (.node s []) (.agg #[.string s, .slice o 0 c])) := fun W h => Rep.keep (Keeps.below h) _ _ hr'
      clear ih hs hexp hr' HHD
      go_enter Try.func60, Try.ntmps60
      go_wp2_with fail
      refine (HHD'.out _ _ (HR.out _ hB0)).mono ?_
      rintro e w1 ⟨rfl, hb1⟩
      have B1 := Below.next B0 hb1; obtain ⟨x1, y1, hB1, hl1⟩ := boxed B1; clear hb1
      go_wp2_with fail
      refine (HKI.out _ _ (HR.out _ hB1)).mono ?_
      rintro e w2 ⟨hb2, hks⟩
      have B2 := Below.next B1 hb2; obtain ⟨x2, y2, hB2, hl2⟩ := boxed B2; clear hb2
      rw [HK0.out] at hks
      rcases hks with ⟨-, rfl⟩ | ⟨h, -⟩
      · go_wp2
        go_loopw [3, 12] (fun nv iv wr => iv = .int .i64 0 ∧ nv = .int .i64 0 ∧ wr = w2) (fun _ _ _ => 0)
        case atStart => exact ⟨rfl, rfl, rfl⟩
        case round =>
          obtain ⟨rfl, rfl, rfl⟩ := hrel
          go_wp2
          go_ret
          exact ⟨ret_int (by rw [HT.out]; rfl), hB2⟩
      · exact absurd rfl h
    | cons p ps =>
      obtain ⟨b, off, rfl, hA, hc⟩ := hs.uncons
      obtain ⟨k, hk, hk2, hk1, hkn, -, hkx⟩ := expr_cases hexp
      have hpp : ∀ (i : Nat) (q : Tree), k ≤ i → (p :: ps)[i]? = some q → q.sz ≤ n ∧ q.sz ≤ 1000000000 ∧ q.isExpr = true := fun i q hi hq => by
        have h1 := Tree.sz_part _ _ _ hq
        simp only [Tree.sz] at hn hb
        exact ⟨by omega, by omega, hkx i q hi hq⟩
      have hll := Tree.length_le_szL (p :: ps)
      have HL := Lib.hid (letsTo_le (.node s (p :: ps)))
      have HS : Hid (∀ (j : Nat) (q : Tree), (p :: ps)[k + j]? = some q → (Tree.node s (p :: ps)).letsTo (j + 1) = (Tree.node s (p :: ps)).letsTo j + q.lets) := fun j q hq => by
        have := kidL_at (a := s) hk hk1 (Nat.le_add_right k j) hq
        rw [show k + j - k = j from by omega] at this
        exact letsTo_succ this
      have HE : Hid (∀ j, ps.length + 1 - k ≤ j → (Tree.node s (p :: ps)).letsTo j = (Tree.node s (p :: ps)).lets) := fun j hj => letsTo_end (by rw [kidL_len hk hk1]; omega)
      have HZ : Hid ((Tree.node s (p :: ps)).letsTo 0 = if p.atom.data.toList = [108, 101, 116] then 1 else 0) := letsTo_zero _
      have HHD' : Hid (∀ v w, Rep w A (.node s (p :: ps)) v → Calls Try.prog 50 #[v] w fun e w' => e = .returned (.string p.atom) ∧ Below w.heap.size w w') := HHD.out
      have hML : (Tree.node s (p :: ps)).sz ≤ 1000000000 := hb
      generalize hsz : (Tree.node s (p :: ps)).sz = SZ at HL hML
      have hkl := kidsOf_length p.atom.data.toList (ps.length + 1) (by omega)
      have hkg := kidsOf_get p.atom.data.toList (ps.length + 1) (by omega)
      have HKI' : Hid (∀ v w, Rep w A (.node s (p :: ps)) v → Calls Try.prog 74 #[v] w (KidsR (kidsOf p.atom.data.toList (ps.length + 1)) w)) := HKI.out
      rw [hk] at hkl hkg
      generalize kidsOf p.atom.data.toList (ps.length + 1) = ks at *
      simp only [List.length_cons] at hcap hll B0 x0 y0 hB0 hl0
      have HRC : Hid (∀ W, Below w.heap.size w W → RepC W A (p :: ps) b off) := fun W h => RepC.keep (Keeps.below h) hA _ _ hc
      have HR : Hid (∀ W, Below w.heap.size w W → Rep W A (.node s (p :: ps)) (.agg #[.string s, .slice (some ⟨b, off, none⟩) (ps.length + 1) c])) := fun W h => Rep.keep (Keeps.below h) _ _ hr'
      have HQ := Lib.hid (fun (i : Nat) (q : Tree) (hi : k ≤ i) (hq : (p :: ps)[i]? = some q) v w' hr => ih q A v w' (hpp i q hi hq).1 hr (hpp i q hi hq).2.1 (hpp i q hi hq).2.2)
      have hlN : ps.length + 1 ≤ 1000000000 := by simp only [Tree.sz] at hb; omega
      have hlk : 0 < ks.length := by omega
      have hlk2 : ks.length ≤ ps.length + 1 := by omega
      have HKL := Lib.hid hkl
      have HKG := Lib.hid hkg
      clear hc hs ih hexp hkx hpp hk2 hk hb hn hsz hr' HKI HHD hkl hkg hln
      generalize (Tree.node s (p :: ps)).lets = R at *
      generalize (Tree.node s (p :: ps)).letsTo = M at *
      by_cases hlet : p.atom.data.toList = [108, 101, 116]
      all_goals
        first
          | have e7 : (p.atom.toList == [108, 101, 116]) = true := by rw [Lib.toList_data, hlet]; rfl
            have HZ2 : Hid (M 0 = 1) := by show _ = _; rw [HZ.out, if_pos hlet]
          | have e7 : (p.atom.toList == [108, 101, 116]) = false := by rw [Lib.toList_data]; simpa using hlet
            have HZ2 : Hid (M 0 = 0) := by show _ = _; rw [HZ.out, if_neg hlet]
        clear hlet HZ
        go_enter Try.func60, Try.ntmps60
        go_wp2_with fail
        refine (HHD'.out _ _ (HR.out _ hB0)).mono ?_
        rintro e w1 ⟨rfl, hb1⟩
        have B1 := Below.next B0 hb1; obtain ⟨x1, y1, hB1, hl1⟩ := boxed B1; clear hb1
        go_wp2_with fail
        refine (HKI'.out _ _ (HR.out _ hB1)).mono ?_
        rintro e w2 ⟨hb2, hks⟩
        have B2 := Below.next B1 hb2; obtain ⟨x2, y2, hB2, hl2⟩ := boxed B2; clear hb2
        rcases hks with ⟨h, rfl⟩ | ⟨-, bk, ck, rfl, hbk, hck, hkc⟩
        · exact absurd h (by intro h; rw [h] at hlk; simp at hlk)
        have hbk1 : bk < w2.heap.size := by
          obtain ⟨q, hq⟩ : ∃ q, ks[0]? = some q := ⟨ks[0]'hlk, by simp⟩
          exact lt_of_cell (hkc 0 q hq)
        have HKC := Lib.hid hkc
        clear hkc hbk
        go_wp2
        go_loopw [3, 12] (fun nv iv wr => ∃ m : Nat, m ≤ ks.length ∧ iv = .int .i64 m ∧ nv = .int .i64 (M m : Nat) ∧ Below w2.heap.size w2 wr) (fun _ iv _ => ks.length - (intOf iv).toNat)
        case atStart => exact ⟨0, Nat.zero_le _, rfl, by rw [HZ2.out]; rfl, Below.refl _ _⟩
        case round =>
          obtain ⟨m, hm, rfl, rfl, hbr⟩ := hrel
          have B3 := Below.next B2 hbr
          obtain ⟨x3, y3, hB3, hl3⟩ := boxed B3
          by_cases hlt : m < ks.length
          · obtain ⟨i, HI, hi⟩ : ∃ i, Hid (i = k + m) ∧ i < ps.length + 1 := ⟨k + m, rfl, by have := HKL.out; omega⟩
            have hcell : wr.cell? ⟨bk, m, none⟩ = some (.int .i64 (i : Int)) := by
              have h1 := HKC.out m (k + m) (HKG.out m (by have := HKL.out; omega))
              rw [HI.out]
              exact (hbr.cell hbk1).trans h1
            obtain ⟨q, hq⟩ : ∃ q, (p :: ps)[i]? = some q := ⟨(p :: ps)[i]'(by simpa using hi), by simp⟩
            obtain ⟨o', n', c', hx, hy, hrp⟩ := (HRC.out _ hB3).nth i (p := q) (k := off + i * 2) hq rfl
            have HCl := Lib.hid (HQ.out i q (by have := HI.out; omega) hq _ wr hrp)
            have h1 := HS.out m q (by rw [← HI.out]; exact hq)
            have h2 := HL.out (m + 1)
            have h3 : M m + q.lets ≤ 1000000000 := by omega
            have HN := Lib.hid h1
            clear hq h1 h2
            go_wp2_with fail
            refine HCl.out.mono ?_
            rintro e wq ⟨rfl, hbq⟩
            have hbr2 := hbr.trans (hbq.mono hbr.size)
            go_wp2
            go_roundw
            case rel => exact ⟨m + 1, by omega, by go_num, by rw [HN.out]; go_num, hbr2⟩
            case measure => simp [intOf]; omega
          · go_wp2
            go_ret
            exact ⟨ret_int (by rw [HE.out m (by have := HKL.out; omega)]), hB3⟩

set_option maxRecDepth 100000 in
set_option maxHeartbeats 800000 in
theorem readNormal_any (s : ByteArray) (w : World) (hs : s.size ≤ 1000000000) : Calls Try.prog 59 #[.string s] w (ReadP (pnorm s.data.toList) w) := by
  have HC := Lib.hid (fun W => readExpr_any s W hs)
  go_enter Try.func59, Try.ntmps59
  go_wp2_with fail
  refine (HC.out _).mono ?_
  rintro e w1 ⟨a, o, l, c, ok, t, rfl, hb1, hr, hok, ht⟩
  have hB : Below w.heap.size w w1 := ((Below.refl _ _).alloc (Nat.le_refl _) _).trans (hb1.mono (by simp))
  obtain ⟨hc1, hf1⟩ := bcell hb1; have hz1 := hb1.size; simp only [World.size_alloc] at hc1 hf1 hz1; have hy1_0 : w.heap.size < w1.heap.size := by omega
  cases ok
  · have HN : Hid (pnorm s.data.toList = none) := by
      show _ = _; unfold pnorm
      cases hp : pexpr s.data.toList with
      | none => rfl
      | some t' => rw [hp] at hok; cases hok
    clear hok ht
    go_wp2
    go_region
    go_wp2
    exact bodyPost_ret (v := .tuple #[.agg #[.string a, .slice o l c], .bool false]) (by simp [results, Try.results59, go_sem, hc1, hy1_0]) rfl ⟨_, _, _, _, _, t, rfl, (((hB.setCell (by simp) _).setCell (by simp) _).alloc (by simp; omega) _).drew,
      Rep.weak (fun b (hb : w.heap.size + 1 ≤ b) => by omega) _ _ (Rep.keep ((((Keeps.refl _ _).setCell (fun b hb => by simp at hb ⊢; omega) _).setCell (fun b hb => by simp at hb ⊢; omega) _).alloc' _).drew _ _ (Rep.weak (fun b hb => by simpa using hb) _ _ hr)), by rw [HN.out]; rfl, fun t' ht => by rw [HN.out] at ht; cases ht⟩
  · obtain ⟨t', hp⟩ : ∃ t', pexpr s.data.toList = some t' := by
      cases hp : pexpr s.data.toList with
      | none => rw [hp] at hok; cases hok
      | some t' => exact ⟨t', rfl⟩
    obtain rfl := ht _ hp
    obtain ⟨hg, hsz, htx, he, -⟩ := pexpr_facts hp
    have HN : Hid ((pnorm s.data.toList).isSome = t.nrm true ∧ ∀ t', pnorm s.data.toList = some t' → t = t') := by
      refine ⟨?_, fun t' h => ?_⟩
      · rw [pnorm_isSome, hp]; rfl
      · rw [pnorm_some, hp] at h; exact Option.some.inj h.1
    have hr := Rep.weak (A' := fun b => w.heap.size + 1 ≤ b) (fun b hb => by simpa using hb) _ _ hr
    have HT := Lib.hid (fun v w' (hr : Rep w' (fun b => w.heap.size + 1 ≤ b) t v) => (isNormal_all _).2 t _ v w' (Nat.le_refl _) hr hsz htx hg he)
    generalize t.nrm true = b at HN HT
    clear hok ht hp hg hsz htx he
    go_wp2_with fail
    obtain ⟨z1, z2⟩ := two_new w1 (.string a) (.slice o l c) 46
    have hr1 := Rep.keep (Keeps.alloc _ w1 (.cells #[.string a, .slice o l c] 46)) _ _ hr
    have hB1 : Below w.heap.size w (w1.alloc (.cells #[.string a, .slice o l c] 46)) := hB.alloc (by omega) _
    have q1 : (w1.alloc (.cells #[.string a, .slice o l c] 46)).cell? ⟨w.heap.size, 0, none⟩ = some (.string ⟨#[]⟩) := (World.cell?_of_block (w := w1) (Below.heap_alloc _ _ _ hy1_0)).trans ((hc1 _ _ (by omega)).trans (two_new w _ _ _).1)
    have q2 : (w1.alloc (.cells #[.string a, .slice o l c] 46)).cell? ⟨w.heap.size, 1, none⟩ = some (.slice none 0 0) := (World.cell?_of_block (w := w1) (Below.heap_alloc _ _ _ hy1_0)).trans ((hc1 _ _ (by omega)).trans (two_new w _ _ _).2)
    have q3 : ∀ j, (w1.alloc (.cells #[.string a, .slice o l c] 46)).frozen? ⟨w.heap.size, j, none⟩ = false := fun j => (World.frozen?_of_block (w := w1) (Below.heap_alloc _ _ _ hy1_0)).trans ((hf1 _ _ (by omega)).trans (frozen_new w _ _ _))
    go_region_with (go_at_call 55; refine (callQ (w1 := (w1.alloc (.cells #[.string a, .slice o l c] 46))) ?_ (HT.out _ _ ?_)).mono ?_; (first | assumption | exact (Below.refl _ _).drew); (exact Rep.keep (Keeps.below (by first | assumption | exact (Below.refl _ _).drew)) _ _ hr1); rintro e w' ⟨rfl, hb'⟩; have g1 := (hb'.cell (lt_of_cell z1)).trans z1; have g2 := (hb'.cell (lt_of_cell z2)).trans z2; have g3 := (hb'.cell (lt_of_cell q1)).trans q1; have g4 := (hb'.cell (lt_of_cell q2)).trans q2; have g5 := (hb'.frozen (lt_of_cell q1)).trans (q3 0); have g6 := (hb'.frozen (lt_of_cell q2)).trans (q3 1); have g7 := Nat.lt_of_lt_of_le (lt_of_cell q1) hb'.size)
    all_goals
      have hB2 := hB1.trans (hb'.mono hB1.size)
      go_wp2
      exact bodyPost_ret (v := .tuple #[.agg #[.string a, .slice o l c], .bool b]) (by simp [results, Try.results59, go_sem, g3, g4]) rfl ⟨_, _, _, _, _, t, rfl, (hB2.setCell (by simp) _).setCell (by simp) _,
        Rep.weak (fun b (hb : w.heap.size + 1 ≤ b) => by omega) _ _ (Rep.keep (((Keeps.below hb').setCell (fun b hb => by simp at hb ⊢; omega) _).setCell (fun b hb => by simp at hb ⊢; omega) _) _ _ hr1), HN.out.1.symm, HN.out.2⟩

set_option maxRecDepth 100000 in
set_option maxHeartbeats 800000 in
theorem normalLets_any (s : ByteArray) (w : World) (hs : s.size ≤ 1000000000) :
    Calls Try.prog 31 #[.string s] w fun e w' => e = .returned (.int .i64 (numE Tree.lets (pnorm s.data.toList))) ∧ Below w.heap.size w w' := by
  have HC := Lib.hid (fun W => readNormal_any s W hs)
  go_enter Try.func31, Try.ntmps31
  go_wp2_with fail
  refine (HC.out _).mono ?_
  rintro e w1 ⟨a, o, l, c, ok, t, rfl, hb1, hr, hok, ht⟩
  cases hp : pnorm s.data.toList with
  | none =>
    rw [hp] at hok
    have hok' : ok = false := hok
    subst hok'
    have HP := Lib.hid hp
    clear hok ht hp
    go_wp2
    go_ret
    exact ⟨ret_int (by rw [HP.out]; rfl), hb1.alloc hb1.size _⟩
  | some t' =>
    rw [hp] at hok
    have hok' : ok = true := hok
    subst hok'
    obtain rfl := ht _ hp
    obtain ⟨hg, hsz, htx, he, -⟩ := pexpr_facts (pnorm_some.1 hp).1
    have HP := Lib.hid hp
    clear hok ht hp
    have HM := Lib.hid (lets_any _ t _ _ (w1.alloc (.cells #[.string a, .slice o l c] 46)) (Nat.le_refl _) (Rep.keep (Keeps.alloc _ _ _) _ _ hr) (by omega) he)
    have hB1 : Below w.heap.size w (w1.alloc (.cells #[.string a, .slice o l c] 46)) := hb1.alloc hb1.size _
    clear hg hsz htx he
    go_wp2_with fail
    refine HM.out.mono ?_
    rintro e w2 ⟨rfl, hb2⟩
    go_wp2
    go_ret
    exact ⟨ret_int (by rw [HP.out]; rfl), hB1.trans (hb2.mono hB1.size)⟩

set_option maxRecDepth 100000 in
set_option maxHeartbeats 800000 in
theorem sNormalLets_any (s : ByteArray) (w : World) (hs : s.size ≤ 1000000000) :
    Calls Try.prog 30 #[.string s] w fun e w' => e = .returned (.int .i64 (numE Tree.lets (pnorm s.data.toList))) ∧ Below w.heap.size w w' := by
  have HC := Lib.hid (fun W => l2Parse_any s W hs)
  have HI := Lib.hid (fun W => sNormalIs_any s W hs)
  rw [← pnorm_isSome] at HI
  cases hp : pnorm s.data.toList with
  | none =>
    rw [hp] at HI
    clear hp HC
    go_enter Try.func30, Try.ntmps30
    go_wp2_with fail
    refine (HI.out _).mono ?_
    rintro e w1 ⟨rfl, hb1⟩
    go_wp2
    go_ret
    exact ⟨rfl, hb1⟩
  | some t' =>
    rw [hp] at HI
    have hp1 := (pnorm_some.1 hp).1
    rw [hp1] at HC
    obtain ⟨hg, hsz, htx, he, -⟩ := pexpr_facts hp1
    have HL : Hid (t'.letsP = t'.lets) := letsP_lets _ t' (Nat.le_refl _) hg he
    clear hp hp1 htx he
    go_enter Try.func30, Try.ntmps30
    go_wp2_with fail
    refine (HI.out _).mono ?_
    rintro e w1 ⟨rfl, hb1⟩
    go_wp2_with fail
    refine (HC.out _).mono ?_
    rintro e w2 ⟨a, o, l, c, ok, t, rfl, hb2, hr, hok, ht⟩
    have hok' : ok = true := hok
    subst hok'
    obtain rfl := ht _ rfl
    clear hok ht
    have HM := Lib.hid (l5Lets_any _ t _ _ (w2.alloc (.cells #[.string a, .slice o l c] 42)) (Nat.le_refl _) (Rep.keep (Keeps.alloc _ _ _) _ _ hr) (by omega) hg)
    have hB2 : Below w.heap.size w w2 := hb1.trans (hb2.mono hb1.size)
    have hB3 : Below w.heap.size w (w2.alloc (.cells #[.string a, .slice o l c] 42)) := hB2.alloc hB2.size _
    clear hg hsz
    go_wp2_with fail
    refine HM.out.mono ?_
    rintro e w3 ⟨rfl, hb3⟩
    go_wp2
    go_ret
    exact ⟨ret_int (by rw [HL.out]; rfl), hB3.trans (hb3.mono hB3.size)⟩
end Go.Proofs.Ytnhmbncamimehaa
