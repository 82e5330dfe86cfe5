/- Free names: the program tells of them. -/
import Derived.Test.YtoihkjnfklogpaaFree
namespace Go.Proofs.Ytoihkjnfklogpaa
open Go.RowKit

/-- What a function that is told of names hands back: I says what it has been told, and which blocks are its own. -/
def ToldK (I : List ByteArray → (Nat → Prop) → World → Prop) (B : Nat) (l : List ByteArray) (O : Nat → Prop) (w : World) (e : Ending) (w' : World) : Prop :=
  e = .returned (.tuple #[]) ∧ ∃ O', I l O' w' ∧ (∀ k, O' k → O k ∨ w.heap.size ≤ k) ∧ (∀ k, k < w.heap.size → ¬ O k → w'.heap[k]? = w.heap[k]?) ∧ Below B w w'

theorem cell_of_heap {w w' : World} {b o : Nat} {v : Value} (h : w'.heap[b]? = w.heap[b]?) (hc : w.cell? ⟨b, o, none⟩ = some v) : w'.cell? ⟨b, o, none⟩ = some v := (World.cell?_of_block (a := ⟨b, o, none⟩) h).trans hc

theorem Strs.blocks {w w' : World} {o : Option Addr} {n : Nat} {l : List ByteArray} (h : Strs w o n l) (hk : ∀ a, o = some a → w'.heap[a.block]? = w.heap[a.block]?) : Strs w' o n l := by
  obtain ⟨hn, h | ⟨b, off, ho, hc⟩⟩ := h
  · exact ⟨hn, .inl h⟩
  · exact ⟨hn, .inr ⟨b, off, ho, fun i s hi => cell_of_heap (hk _ ho) (hc i s hi)⟩⟩

set_option maxRecDepth 100000 in
set_option maxHeartbeats 3200000 in
theorem free_any (K : FuncId) (he : ∀ args w, (callFunc K args).run Try.prog w = .ok (.enter K args) w) (caps : Array Value) (I : List ByteArray → (Nat → Prop) → World → Prop) (B M : Nat)
    (hI : ∀ l O w w', I l O w → Below w.heap.size w w' → I l O w') (hO : ∀ l O w, I l O w → B ≤ w.heap.size ∧ ∀ k, O k → B ≤ k ∧ k < w.heap.size)
    (hK : ∀ l O s w, I l O w → l.length ≤ M → s.size ≤ 1000000000 → Calls Try.prog K (#[.string s] ++ caps) w (ToldK I B (l ++ [s]) O w)) (n : Nat) :
    ∀ (t : Tree) (A : Nat → Prop) (v : Value) (bound l : List ByteArray) (O : Nat → Prop) (ob : Option Addr) (nb cb : Nat) (w : World), t.sz ≤ n → Rep w A t v → (∀ b, A b → b < B) → Strs w ob nb bound → (∀ a, ob = some a → a.block < w.heap.size ∧ ¬ O a.block) → I l O w →
      l.length + t.sz ≤ M → bound.length + 2 * t.sz ≤ 100000 → t.sz ≤ 24000 → t.text.length ≤ 12000 → t.good = true → t.isExpr = true →
    Calls Try.prog 42 #[v, .slice ob nb cb, .func (Fn.func K) #[] caps] w (ToldK I B (l ++ t.occ bound) O w) := by
  induction n with
  | zero => intro t A v bound l O ob nb cb w h; cases t; simp [Tree.sz] at h
  | succ n ih =>
    intro t A v bound l O ob nb cb w hn hr hA hbd hba hi hlen hblen hb htx hgood hexp
    have hatom := atom_leI hgood
    have hln : t.parts.length ≤ 1000000000 := by cases t with | node a ps => have := Tree.length_le_szL ps; simp only [Tree.sz, Tree.parts] at *; omega
    have HKI := Lib.hid (fun v w hr => kids_any t A v w hr hln)
    obtain ⟨hBw, hOw⟩ := hO _ _ _ hi
    obtain ⟨s, ps⟩ := t
    have hr' := hr
    simp only [Rep] at hr
    obtain ⟨o, ln, c, rfl, hs, hcap⟩ := hr
    obtain rfl := hs.len
    obtain ⟨hgl, hge⟩ := Tree.good_parts hgood
    have e : ∀ args w, (callFunc K args).run Try.prog w = .ok (.enter K args) w := he
    have hnb : nb ≤ 1000000000 := by have := hbd.1; omega
    have B0 := boxed0 w (.string s) (.slice o ps.length c) 46
    obtain ⟨x0, y0, hB0, hl0⟩ := boxed B0
    cases ps with
    | nil =>
      have hsz : s.size ≤ 1000000000 := by simp only [Tree.atom] at hatom; omega
      have hln1 : l.length ≤ M := by omega
      have ho := occ_leaf bound s
      have HM := Lib.hid (fun W => isName_any s W hsz)
      have HH1 : Hid (∀ W, Below w.heap.size w W → Calls Try.prog 71 #[.slice ob nb cb, .string s] W fun e w' => e = .returned (.bool (hasS bound s)) ∧ W = w') := fun W h => contains_any bound s ob nb cb W (hbd.keep h) hnb
      have HT : Hid (l ++ (Tree.node s []).occ bound = if nameB s.data.toList && !hasS bound s then l ++ [s] else l) := by
        show _ = _
        rw [ho]
        show l ++ (if (nameB s.data.toList && !hasS bound s) = true then [s] else []) = _
        split <;> simp
      have HTO : Hid (∀ W, Below w.heap.size w W → Calls Try.prog K (#[.string s] ++ caps) W (ToldK I B (l ++ [s]) O W)) := fun W h => hK l O s W (hI _ _ _ _ hi h) hln1 hsz
      have HI : Hid (∀ W, Below w.heap.size w W → I l O W) := fun W h => hI _ _ _ _ hi h
      clear ho hge hgl hgood hs hr' hexp ih hbd hatom hb htx hblen HKI hK hI hi hO
      generalize nameB s.data.toList = b1 at *
      generalize hasS bound s = b2 at *
      cases b1
      · go_enter Try.func42, Try.ntmps42
        go_wp2_with fail
        refine (isAtom_any _ _ _ _ _).mono ?_
        rintro e w1 ⟨rfl, hb1⟩
        have B1 := Below.next B0 hb1; obtain ⟨x1, y1, hB1, hl1⟩ := boxed B1; clear hb1
        go_wp2_with fail
        refine (HM.out _).mono ?_
        rintro e w2 ⟨rfl, rfl⟩
        go_wp2
        go_end0
        exact ⟨rfl, O, by rw [HT.out]; exact HI.out _ hB1, fun k h => .inl h, fun k hk _ => hB1.block k hk, hB1.mono hBw⟩
      · cases b2
        rotate_left
        · go_enter Try.func42, Try.ntmps42
          go_wp2_with fail
          refine (isAtom_any _ _ _ _ _).mono ?_
          rintro e w1 ⟨rfl, hb1⟩
          have B1 := Below.next B0 hb1; obtain ⟨x1, y1, hB1, hl1⟩ := boxed B1; clear hb1
          go_wp2_with fail
          refine (HM.out _).mono ?_
          rintro e w2 ⟨rfl, rfl⟩
          go_wp2_with fail
          refine (HH1.out _ hB1).mono ?_
          rintro e w3 ⟨rfl, rfl⟩
          go_wp2
          go_end0
          exact ⟨rfl, O, by rw [HT.out]; exact HI.out _ hB1, fun k h => .inl h, fun k hk _ => hB1.block k hk, hB1.mono hBw⟩
        · go_enter Try.func42, Try.ntmps42
          go_wp2_with fail
          refine (isAtom_any _ _ _ _ _).mono ?_
          rintro e w1 ⟨rfl, hb1⟩
          have B1 := Below.next B0 hb1; obtain ⟨x1, y1, hB1, hl1⟩ := boxed B1; clear hb1
          go_wp2_with fail
          refine (HM.out _).mono ?_
          rintro e w2 ⟨rfl, rfl⟩
          go_wp2_with fail
          refine (HH1.out _ hB1).mono ?_
          rintro e w3 ⟨rfl, rfl⟩
          have HTO1 := Lib.hid (HTO.out _ hB1)
          have hs1 := hB1.size
          go_wp2_with (go_at_fn K; refine HTO1.out.mono ?_; rintro e w4 ⟨rfl, O', hi4, ho4, hk4, hb4⟩)
          go_end0
          exact ⟨rfl, O', by rw [HT.out]; exact hi4, fun k h => (ho4 k h).imp id (by omega), fun k hk hno => (hk4 k (by omega) hno).trans (hB1.block k hk), (hB1.mono hBw).trans hb4⟩
    | cons p ps =>
      have hlenb : (((p :: ps).length : Int) == 0) = false := by simp only [List.length_cons, beq_eq_false_iff_ne, ne_eq]; omega
      obtain ⟨b, off, rfl, hAb, hc⟩ := hs.uncons
      obtain ⟨k, hk, hk2, hk1, hkn, -, hkx⟩ := expr_cases hexp
      have hne : (Tree.node s (p :: ps)).parts ≠ [] := by simp [Tree.parts]
      have hpp : ∀ (i : Nat) (q : Tree), k ≤ i → (p :: ps)[i]? = some q → q.sz ≤ n ∧ q.sz + 1 ≤ (Tree.node s (p :: ps)).sz ∧ q.text.length ≤ 12000 ∧ q.good = true ∧ q.isExpr = true := fun i q hi hq => by
        have h1 := Tree.part_sz (t := .node s (p :: ps)) (List.mem_of_getElem? hq)
        have h2 := text_part_le (a := s) (List.mem_of_getElem? hq)
        exact ⟨by omega, by omega, by omega, Tree.good_part _ _ _ hq hgl, hkx i q hi hq⟩
      have hkg := kidsOf_get p.atom.data.toList (ps.length + 1) (by omega)
      have hkl := kidsOf_length p.atom.data.toList (ps.length + 1) (by omega)
      rw [hk] at hkg hkl
      have HS : Hid (∀ (m i : Nat) (q : Tree), i = k + m → i < ps.length + 1 → (p :: ps)[i]? = some q → (Tree.node s (p :: ps)).occTo bound (m + 1) = (Tree.node s (p :: ps)).occTo bound m ++ q.occ (bound ++ (Tree.node s (p :: ps)).bindsAt i) ∧ ((Tree.node s (p :: ps)).occTo bound m).length + q.sz + 1 ≤ (Tree.node s (p :: ps)).sz) := fun m i q hi hil hq => by
        have h1 : (kidsOf (Tree.node s (p :: ps)).hd.data.toList (Tree.node s (p :: ps)).parts.length)[m]? = some i := by
          have := hkg m (by omega)
          rw [← hi] at this
          exact this
        have h2 : nth (Tree.node s (p :: ps)).parts i = q := nth_of hq
        have h3 := occTo_succ bound h1
        have h4 := occTo_room bound hne h1
        rw [h2] at h3 h4
        exact ⟨h3, h4⟩
      have HE : Hid (∀ m, ps.length + 1 - k ≤ m → (Tree.node s (p :: ps)).occTo bound m = (Tree.node s (p :: ps)).occ bound) := fun m hm => occTo_end bound hne (by show (kidsOf p.atom.data.toList (ps.length + 1)).length ≤ _; omega)
      have HZ : Hid ((Tree.node s (p :: ps)).occTo bound 0 = []) := occTo_zero _ _
      have HBL : Hid (∀ i, ((Tree.node s (p :: ps)).bindsAt i).length ≤ 2) := fun i => bindsAt_len _ i
      have hll := Tree.length_le_szL (p :: ps)
      have hlN : ps.length + 1 ≤ 24000 := by simp only [Tree.sz, List.length_cons] at hb hll; omega
      have HBI := Lib.hid (fun (i : Nat) A v w hr h1 h2 => bound_any s p ps i A v w hr hexp h1 h2 (by omega))
      rw [hk] at HBI
      have HIH := Lib.hid (fun (i : Nat) (q : Tree) (hi : k ≤ i) (hq : (p :: ps)[i]? = some q) (tv' : Value) (bd l' : List ByteArray) (O' : Nat → Prop) (ob' : Option Addr) (nb' cb' : Nat) (W : World) (hr : Rep W A q tv') (hbd : Strs W ob' nb' bd) (hba : ∀ a, ob' = some a → a.block < W.heap.size ∧ ¬ O' a.block) (hi' : I l' O' W) (h1 : l'.length + q.sz ≤ M) (h2 : bd.length + 2 * q.sz ≤ 100000) =>
        ih q A tv' bd l' O' ob' nb' cb' W (hpp i q hi hq).1 hr hA hbd hba hi' h1 h2 (by have := (hpp i q hi hq).2.1; omega) (hpp i q hi hq).2.2.1 (hpp i q hi hq).2.2.2.1 (hpp i q hi hq).2.2.2.2)
      have HKI' : Hid (∀ v w, Rep w A (.node s (p :: ps)) v → Calls Try.prog 64 #[v] w (KidsR (kidsOf p.atom.data.toList (ps.length + 1)) w)) := HKI.out
      generalize kidsOf p.atom.data.toList (ps.length + 1) = ks at *
      simp only [List.length_cons] at hcap hll B0 x0 y0 hB0 hl0
      have HRW : Hid (∀ W, Below w.heap.size w W → Rep W A (.node s (p :: ps)) (.agg #[.string s, .slice (some ⟨b, off, none⟩) (ps.length + 1) c])) := fun W h => Rep.keep (Keeps.below h) _ _ hr'
      have HAW : Hid (∀ W : World, (∀ x, x < w.heap.size → ¬ O x → W.heap[x]? = w.heap[x]?) → Keeps A w W) := fun W h x o v hx hc => cell_of_heap (h x (lt_of_cell hc) (fun hox => by have := hA x hx; have := (hOw x hox).1; omega)) hc
      have HBDW : Hid (∀ W : World, (∀ x, x < w.heap.size → ¬ O x → W.heap[x]? = w.heap[x]?) → Strs W ob nb bound) := fun W h => hbd.blocks fun a ha => h a.block (hba a ha).1 (hba a ha).2
      have HRC0 := Lib.hid hc
      have HRT0 := Lib.hid hr'
      have HI : Hid (∀ W, Below w.heap.size w W → I l O W) := fun W h => hI _ _ _ _ hi h
      have HII := Lib.hid hI
      have HOO := Lib.hid hO
      have HOW := Lib.hid hOw
      have hAbb := hA b hAb
      have hlk : 0 < ks.length := by omega
      have hlk2 : ks.length ≤ ps.length + 1 := by omega
      have HKL := Lib.hid hkl
      have HKG := Lib.hid hkg
      have hSZ : bound.length + 2 * (Tree.node s (p :: ps)).sz ≤ 100000 := hblen
      have hLZ : l.length + (Tree.node s (p :: ps)).sz ≤ M := hlen
      have hbl : bound.length ≤ 100000 := by omega
      generalize (Tree.node s (p :: ps)).sz = SZ at HS hSZ hLZ
      generalize (Tree.node s (p :: ps)).occTo bound = OC at *
      generalize (Tree.node s (p :: ps)).occ bound = RES at *
      generalize (Tree.node s (p :: ps)).bindsAt = BI at *
      clear hs hc hr' hexp hkx hpp hk2 hk hb htx hgood hgl hge hbd hba ih hne hkg hkl hn hlen hblen hatom hK hI hi hO hOw HKI hln
      go_enter Try.func42, Try.ntmps42
      go_wp2_with fail
      refine (isAtom_any _ _ _ _ _).mono ?_
      rintro e w1 ⟨rfl, hb1⟩
      have B1 := Below.next B0 hb1; obtain ⟨x1, y1, hB1, hl1⟩ := boxed B1; clear hb1
      go_wp2_with fail
      refine (HKI'.out _ _ (HRW.out _ hB1)).mono ?_
      rintro e w2 ⟨hb2, hks⟩
      have B2 := Below.next B1 hb2; obtain ⟨x2, y2, hB2, hl2⟩ := boxed B2; clear hb2
      rcases hks with ⟨h, rfl⟩ | ⟨-, bk, ck, rfl, hbk, hck, hkc⟩
      · exact absurd h (by intro h; rw [h] at hlk; simp at hlk)
      have hbk1 : bk < w2.heap.size := by
        obtain ⟨q, hq⟩ : ∃ q, ks[0]? = some q := ⟨ks[0]'hlk, by simp⟩
        exact lt_of_cell (hkc 0 q hq)
      have HKC := Lib.hid hkc
      have hs1 := hB1.size
      have hs2 := hB2.size
      have hbkw : w.heap.size ≤ bk := by omega
      have HX2 := Lib.hid x2
      have HY2 := Lib.hid y2
      have HB2K : Hid (∀ x, x < w.heap.size → w2.heap[x]? = w.heap[x]?) := fun x hx => hB2.block x hx
      have HBB2 := Lib.hid (hB2.mono hBw)
      clear hkc hbk
      go_wp2
      go_loopw [27] (fun iv wr => ∃ (m : Nat) (O' : Nat → Prop), m ≤ ks.length ∧ iv = .int .i64 m ∧ Hid (I (l ++ OC m) O' wr) ∧ Hid (∀ x, O' x → O x ∨ w2.heap.size ≤ x) ∧ Hid (∀ x, x < w2.heap.size → ¬ O x → wr.heap[x]? = w2.heap[x]?) ∧ w2.heap.size ≤ wr.heap.size ∧ Hid (Below B w wr)) (fun iv _ => ks.length - (intOf iv).toNat)
      case atStart => exact ⟨0, O, Nat.zero_le _, rfl, by rw [HZ.out]; simpa using (Lib.hid (HI.out _ hB2)), fun x h => .inl h, fun x _ _ => rfl, Nat.le_refl _, HBB2⟩
      case round =>
        obtain ⟨m, O', hm, rfl, HIr, HOr, HKr, hsr, HBr⟩ := hrel
        have hOr := (HOO.out _ _ _ HIr.out).2
        have hno : ∀ x, w.heap.size ≤ x → x < w2.heap.size → ¬ O x := fun x h1 h2 h => by have := (HOW.out x h).2; omega
        have x3 := cell_of_heap (HKr.out w.heap.size (by omega) (hno _ (Nat.le_refl _) (by omega))) HX2.out
        have y3 := cell_of_heap (HKr.out w.heap.size (by omega) (hno _ (Nat.le_refl _) (by omega))) HY2.out
        have hkw : ∀ x, x < w.heap.size → ¬ O x → wr.heap[x]? = w.heap[x]? := fun x hx hox => (HKr.out x (by omega) hox).trans (HB2K.out x hx)
        have HRCr := Lib.hid (RepC.keep (HAW.out wr hkw) hAb _ _ HRC0.out)
        have HRTr := Lib.hid (Rep.keep (HAW.out wr hkw) _ _ HRT0.out)
        have HBDr := Lib.hid (HBDW.out wr hkw)
        by_cases hlt : m < ks.length
        · obtain ⟨i, HJ, hi⟩ : ∃ i, Hid (i = k + m) ∧ i < ps.length + 1 := ⟨k + m, rfl, by have := HKL.out; omega⟩
          have hik : k ≤ i := by have := HJ.out; omega
          have hcell : wr.cell? ⟨bk, m, none⟩ = some (.int .i64 (i : Int)) := by
            have h1 := HKC.out m (k + m) (HKG.out m (by have := HKL.out; omega))
            rw [HJ.out]
            exact cell_of_heap (HKr.out bk hbk1 (hno bk hbkw hbk1)) h1
          obtain ⟨q, hq⟩ : ∃ q, (p :: ps)[i]? = some q := ⟨(p :: ps)[i]'(by simpa using hi), by simp⟩
          obtain ⟨o', n', c', hx, hy, hrp⟩ := HRCr.out.nth i (p := q) (k := off + i * 2) hq rfl
          obtain ⟨h3, h4⟩ := HS.out m i q HJ.out hi hq
          have h7 := HBL.out i
          have hlq : (l ++ OC m).length + q.sz ≤ M := by rw [List.length_append]; omega
          have hbq : (bound ++ BI i).length + 2 * q.sz ≤ 100000 := by rw [List.length_append]; omega
          have HCl := Lib.hid (fun ob' nb' cb' W hr hbd hba hi' => HIH.out i q hik hq (.agg #[.string q.atom, .slice o' n' c']) (bound ++ BI i) (l ++ OC m) O' ob' nb' cb' W hr hbd hba hi' hlq hbq)
          rw [List.append_assoc, ← h3] at HCl
          have HAL : Hid (∀ (W : World) (o : Obj), Below wr.heap.size wr W → Below wr.heap.size wr (W.alloc o)) := fun W o h => h.alloc h.size o
          have HTR : Hid (∀ (W W' : World), Below wr.heap.size wr W → Below W.heap.size W W' → Below wr.heap.size wr W') := fun W W' h h' => h.trans (h'.mono h.size)
          have HSS : Hid (∀ W, Below wr.heap.size wr W → W.cell? ⟨w.heap.size, 0, none⟩ = some (.string s) ∧ W.cell? ⟨w.heap.size, 1, none⟩ = some (.slice (some ⟨b, off, none⟩) (ps.length + 1) c) ∧ W.cell? ⟨b, off + i * 2, none⟩ = some (.string q.atom) ∧ W.cell? ⟨b, off + i * 2 + 1, none⟩ = some (.slice o' n' c')) :=
            fun W h => ⟨(h.cell (lt_of_cell x3)).trans x3, (h.cell (lt_of_cell y3)).trans y3, (h.cell (lt_of_cell hx)).trans hx, (h.cell (lt_of_cell hy)).trans hy⟩
          have hnb1 : ¬ O' w.heap.size := fun h => by
            rcases HOr.out _ h with h | h
            · have := (HOW.out _ h).2; omega
            · omega
          have hnb2 : ¬ O' b := fun h => by have := (hOr b h).1; omega
          have HS2 : Hid (∀ W : World, (∀ x, x < wr.heap.size → ¬ O' x → W.heap[x]? = wr.heap[x]?) → W.cell? ⟨w.heap.size, 0, none⟩ = some (.string s) ∧ W.cell? ⟨w.heap.size, 1, none⟩ = some (.slice (some ⟨b, off, none⟩) (ps.length + 1) c) ∧ W.cell? ⟨b, off + i * 2, none⟩ = some (.string q.atom) ∧ W.cell? ⟨b, off + i * 2 + 1, none⟩ = some (.slice o' n' c')) := fun W h =>
            ⟨cell_of_heap (h _ (lt_of_cell x3) hnb1) x3, cell_of_heap (h _ (lt_of_cell y3) hnb1) y3, cell_of_heap (h _ (lt_of_cell hx) hnb2) hx, cell_of_heap (h _ (lt_of_cell hy) hnb2) hy⟩
          have HSB : Hid (∀ W, Below wr.heap.size wr W → Strs W ob nb bound) := fun W h => HBDr.out.keep h
          have HRTW : Hid (∀ W, Below wr.heap.size wr W → Rep W A (.node s (p :: ps)) (.agg #[.string s, .slice (some ⟨b, off, none⟩) (ps.length + 1) c])) := fun W h => Rep.keep (Keeps.below h) _ _ HRTr.out
          have HRQ : Hid (∀ W, Below wr.heap.size wr W → Rep W A q (.agg #[.string q.atom, .slice o' n' c'])) := fun W h => Rep.keep (Keeps.below h) _ _ hrp
          have HIW : Hid (∀ W, Below wr.heap.size wr W → I (l ++ OC m) O' W) := fun W h => HII.out _ _ _ _ HIr.out h
          have HOR := Lib.hid hOr
          have hbw0 : Below wr.heap.size wr wr.drew := (Below.refl _ _).drew
          have hi0 : (0 : Int) ≤ (i : Int) := Int.natCast_nonneg _
          have hi1 : (i : Int) < (ps.length : Int) + 1 := by omega
          have hbl2 : nb + (BI i).length ≤ 1000000 := by have := HBDr.out.1; omega
          clear hq hrp h3 h4 hOr hno hkw hnb1 hnb2 hlq hbq
          generalize q.atom = qa at *
          go_wp2_with fail
          go_region_held3 (fun w' => w'.cell? ⟨w.heap.size, 0, none⟩ = some (.string s) ∧ w'.cell? ⟨w.heap.size, 1, none⟩ = some (.slice (some ⟨b, off, none⟩) (ps.length + 1) c) ∧ w'.cell? ⟨b, off + i * 2, none⟩ = some (.string qa) ∧ w'.cell? ⟨b, off + i * 2 + 1, none⟩ = some (.slice o' n' c'))
            (first | exact HS2.out _ (by with_reducible assumption) | exact HSS.out _ (by with_reducible assumption) | exact HSS.out _ (HAL.out _ _ (by with_reducible assumption)))
            (first
              | (go_at_call 66; refine (HBI.out i A _ _ ?_ hik hi).mono ?_; (exact HRTW.out _ hbw0); rintro e w6 ⟨v6, rfl, hrow6, hb6⟩; obtain ⟨o6, c6, rfl, -⟩ := hrow6.forms; have hbw6 := HTR.out _ _ hbw0 hb6; have hbw6a := HAL.out _ (.cells #[.slice ob nb cb, .slice o6 (BI i).length c6] 23) hbw6)
              | (go_at_call 65; refine (concat_any bound (BI i) ob o6 nb cb (BI i).length c6 w6.heap.size _ ?_ ?_ ?_ ?_ ?_).mono ?_; (exact HSB.out _ hbw6a); (exact (hrow6.alloc _).read); (exact hbl2); (exact (two_new w6 _ _ _).1); (exact (two_new w6 _ _ _).2); rintro e w7 ⟨v7, rfl, hrow7, hb7⟩; obtain ⟨o7, c7, rfl, -⟩ := hrow7.forms; rw [List.length_append] at hrow7; have hbw7 := HTR.out _ _ hbw6a hb7)
              | (go_at_call 42; refine (HCl.out o7 (bound.length + (BI i).length) c7 _ (HRQ.out _ hbw7) hrow7.read (fun a ha => ⟨(hrow7.addr a ha).2, fun h => by have h1 := (hrow7.addr a ha).1; have h2 := (HOR.out _ h).2; have h3 := hbw6a.size; omega⟩) (HIW.out _ hbw7)).mono ?_; rintro e w9 ⟨rfl, O9, hi9, ho9, hk9, hb9⟩; have hkk9 : ∀ x, x < wr.heap.size → ¬ O' x → w9.heap[x]? = wr.heap[x]? := fun x hx hox => (hk9 x (Nat.lt_of_lt_of_le hx hbw7.size) hox).trans (hbw7.block x hx)))
          all_goals
            have hs7 := hbw7.size
            have hs9 := hb9.size
            have HI9 := Lib.hid hi9
            have HO9 : Hid (∀ x, O9 x → O x ∨ w2.heap.size ≤ x) := fun x h => by
              rcases ho9 x h with h | h
              · exact HOr.out x h
              · right; omega
            have HK9 : Hid (∀ x, x < w2.heap.size → ¬ O x → w9.heap[x]? = w2.heap[x]?) := fun x hx hox => (hkk9 x (by omega) (fun h => by
              rcases HOr.out x h with h | h
              · exact hox h
              · omega)).trans (HKr.out x hx hox)
            have HB9 : Hid (Below B w w9) := (HBr.out.trans (hbw7.mono (by omega))).trans hb9
            clear hi9 ho9 hk9 hkk9 hb9
            go_wp2
            go_roundw
            case rel => exact ⟨m + 1, O9, by omega, by go_num, HI9, HO9, HK9, by omega, HB9⟩
            case measure => simp [intOf]; omega
        · have HF : Hid (I (l ++ RES) O' wr) := by
            have := HIr.out
            rw [HE.out m (by have := HKL.out; omega)] at this
            exact this
          have HKF : Hid (∀ x, x < w.heap.size → ¬ O x → wr.heap[x]? = w.heap[x]?) := hkw
          clear hkw
          go_wp2
          go_end0
          exact ⟨rfl, O', HF.out, fun x h => (HOr.out x h).imp id (by omega), HKF.out, HBr.out⟩
end Go.Proofs.Ytoihkjnfklogpaa
