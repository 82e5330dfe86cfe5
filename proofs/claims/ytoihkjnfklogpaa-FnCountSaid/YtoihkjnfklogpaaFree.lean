/- Free names: the reference's list, and the program's telling. -/
import Derived.Test.YtoihkjnfklogpaaFreeB
import Derived.Test.YtoihkjnfklogpaaPlainJ
import Derived.Deep.RegionHeld3
namespace Go.Proofs.Ytoihkjnfklogpaa
open Go.RowKit

theorem Strs.grown {w w' : World} {o : Option Addr} {n : Nat} {l : List ByteArray} {r : Option Nat} (h : Strs w o n l) (hg : w.grownBy w' r) (hne : ∀ a, o = some a → some a.block ≠ r) : Strs w' o n l := by
  obtain ⟨hn, h | ⟨b, off, ho, hc⟩⟩ := h
  · exact ⟨hn, .inl h⟩
  · exact ⟨hn, .inr ⟨b, off, ho, fun i s hi => hg.cell (hc i s hi) (show some b ≠ r from hne _ ho)⟩⟩

theorem SRow.addr {w : World} {base n c : Nat} {o : Option Addr} {l : List ByteArray} (h : SRow w base (.slice o n c) l) : ∀ a, o = some a → base ≤ a.block ∧ a.block < w.heap.size := fun a ha => by
  subst ha; exact h.lt a.block rfl

/-- Texts are appended to a row that has no room: what lay there stands. -/
theorem run_append_fresh (w : World) (base ty g0 : Nat) (o : Option Addr) (m c : Nat) (qs : List ByteArray) (hrow : SRow w base (.slice (some ⟨g0, 0, none⟩) 0 0) []) (hq : Strs w o m qs) (hn : qs.length ≤ 1000000000) (hbase : base ≤ w.heap.size) :
    ∃ v' w', (Builtin.append_ #[23, 23] ty #[.slice (some ⟨g0, 0, none⟩) 0 0, .slice o m c]).run Try.prog w = .ok v' w' ∧ SRow w' base v' qs ∧ Below w.heap.size w w' := by
  obtain ⟨i0, hi, hz0, hz1, hz2⟩ := info_parts infoStr
  obtain ⟨v', w', hr, h1, h2⟩ := run_append_strs w base ty _ [] o m c qs hrow hq (by simpa using hn) hbase
  rw [List.nil_append] at h1
  refine ⟨v', w', hr, h1, ?_⟩
  have hm := hq.1
  by_cases hqs : qs = []
  · subst hqs
    have hm0 : m = 0 := hm
    subst hm0
    have hs : Src Try.prog i0.size 23 (.slice o 0 c) 0 [] w := by
      cases o with
      | none => exact Src.ofNil w Try.underlying23 c
      | some a => exact Src.ofSlice w Try.underlying23 a 0 c [] (by simp) (by intro j u h; simp at h) (by intro u h; simp at h)
    have hr2 := run_append_nothing (P := Try.prog) w 23 23 ty 9 i0 Try.underlying23 hi (some ⟨g0, 0, none⟩) 0 0 (Nat.le_refl _) (.slice o 0 c) hs
    rw [hr2] at hr
    simp only [Result.ok.injEq] at hr
    rw [← hr.2]
    exact Below.refl _ _
  · have hpos : 0 < qs.length := List.length_pos_iff.2 hqs
    obtain ⟨b, off, ho, -⟩ : ∃ b off, o = some ⟨b, off, none⟩ ∧ True := by
      rcases hq.2 with h | ⟨b, off, h, -⟩
      · exact absurd h hqs
      · exact ⟨b, off, h, trivial⟩
    subst ho
    have hs : Src Try.prog i0.size 23 (.slice (some ⟨b, off, none⟩) m c) m (qs.map Value.string) w := by
      rw [hz1]
      exact Src.ofSlice w Try.underlying23 ⟨b, off, none⟩ m c (qs.map Value.string) (by simp [hm]) (cells_of_strs hq) (by intro u hu; simp only [List.mem_map] at hu; obtain ⟨_, _, rfl⟩ := hu; rfl)
    have hr2 := run_append_grow_src (P := Try.prog) w 23 23 ty 9 i0 _ Try.underlying23 hi hz0 (some ⟨g0, 0, none⟩) 0 0 [] (run_firstCells_some w.drew i0.size 0 ⟨g0, 0, none⟩ 0 0 [] (by simp) (by intro j v h; simp at h)) (.slice (some ⟨b, off, none⟩) m c) m (qs.map Value.string) hs
      (by omega) (by omega) (growslice_fits (by omega) (by rw [hz2]; omega))
    rw [hr2] at hr
    simp only [Result.ok.injEq] at hr
    rw [← hr.2]
    exact (Below.refl _ _).drew.alloc (Nat.le_refl _) _

theorem step_append_fresh {ops : Array Oper} {o : Oper} {a : Act} {K : Act → World → Prop} {Q : Exit → Act → World → Prop} {E : Prop} {w : World} (hgd : o.guard = none) (s x0 : Operand)
    (ho : o.op = .call { callee := .builtin .append, args := #[s, x0], argTypes := #[23, 23] })
    (base g0 : Nat) (hs : a.eval s = .slice (some ⟨g0, 0, none⟩) 0 0) (oa : Option Addr) (m c : Nat) (hx0 : a.eval x0 = .slice oa m c) (qs : List ByteArray)
    (hrow : SRow w base (.slice (some ⟨g0, 0, none⟩) 0 0) []) (hq : Strs w oa m qs) (hn : qs.length ≤ 1000000000) (hbase : base ≤ w.heap.size)
    (h : ∀ o' c' w', SRow w' base (.slice o' qs.length c') qs → Below w.heap.size w w' → K (a.put o.dst (.slice o' qs.length c')) w') : if Region.wanted o (yielded ops a.tmps) = true then Oper.wp Try.prog o a w K Q else E := by
  have hw : Region.wanted o (yielded ops a.tmps) = true := by simp [Region.wanted, hgd]
  rw [if_pos hw]
  obtain ⟨v', w', hr, h1, h2⟩ := run_append_fresh w base o.type g0 oa m c qs hrow hq hn hbase
  obtain ⟨o', c', rfl, -⟩ := h1.forms
  unfold Oper.wp execOp
  simp only [ho, resolve, invoke, builtin, Sem.run_bind, Sem.run_pure, Result.andThen_ok, List.map_toArray, List.map_cons, List.map_nil, hs, hx0, hr]
  exact h o' c' w' h1 h2

set_option maxRecDepth 100000 in
set_option maxHeartbeats 3200000 in
theorem l2Free_any (n : Nat) : ∀ (t : Tree) (A : Nat → Prop) (tv lv : Value) (bound l : List ByteArray) (ob : Option Addr) (nb cb base : Nat) (w : World), t.sz ≤ n → Rep w A t tv → (∀ b, A b → b < base) → Strs w ob nb bound →
    (∀ a, ob = some a → a.block < w.heap.size ∧ lv.ownBlock ≠ some a.block) → SRow w base lv l → base ≤ w.heap.size → l.length + t.sz ≤ 1000000000 → bound.length + 2 * t.sz ≤ 1000000 → t.sz ≤ 24000 → t.text.length ≤ 12000 → t.good = true → t.isExpr = true →
    Calls Try.prog 81 #[tv, .slice ob nb cb, lv] w (AddedR w base lv ((t.occ bound).foldl addS l)) := by
  induction n with
  | zero => intro t A tv lv bound l ob nb cb base w h; cases t; simp [Tree.sz] at h
  | succ n ih =>
    intro t A tv lv bound l ob nb cb base w hn hr hA hbd hba hrow hbase hlen hblen hb htx hgood hexp
    have hatom := atom_leI hgood
    obtain ⟨s, ps⟩ := t
    have hr' := hr
    simp only [Rep] at hr
    obtain ⟨o, ln, c, rfl, hs, hcap⟩ := hr
    obtain rfl := hs.len
    obtain ⟨hgl, hge⟩ := Tree.good_parts hgood
    obtain ⟨vo, vc, rfl, hst⟩ := hrow.forms
    have HROW := Lib.hid hrow
    have HST := Lib.hid hst
    have HBD := Lib.hid hbd
    have hnb : nb ≤ 1000000000 := by have := hbd.1; omega
    cases ps with
    | nil =>
      have hemp : s.toList.isEmpty = false := by rw [Lib.toList_data]; simpa using hge.1 rfl
      have hemp2 : (s.toList == []) = false := by rw [Lib.toList_data]; simpa using hge.1 rfl
      have ho := occ_leaf bound s
      have hsz : s.size ≤ 1000000000 := by simp only [Tree.atom] at hatom; omega
      have hln : l.length ≤ 1000000000 := by omega
      have HM := Lib.hid (fun W => l2Name_any s W hsz)
      have HH1 : Hid (∀ W, Below w.heap.size w W → Calls Try.prog 74 #[.slice ob nb cb, .string s] W fun e w' => e = .returned (.bool (hasS bound s)) ∧ W = w') := fun W h => l1Has_any bound s ob nb cb W (hbd.keep h) hnb
      have HH2 : Hid (∀ W, Below w.heap.size w W → Calls Try.prog 74 #[.slice vo l.length vc, .string s] W fun e w' => e = .returned (.bool (hasS l s)) ∧ W = w') := fun W h => l1Has_any l s vo l.length vc W (hst.keep h) hln
      have HT : Hid (((Tree.node s []).occ bound).foldl addS l = if nameB s.data.toList && !hasS bound s && !hasS l s then l ++ [s] else l) := by
        show _ = _
        rw [ho]
        show (if (nameB s.data.toList && !hasS bound s) = true then [s] else []).foldl addS l = _
        cases nameB s.data.toList <;> cases hasS bound s <;> simp [addS]
        cases hasS l s <;> simp
      have bel := (Below.refl w.heap.size w).alloc (Nat.le_refl _) (.cells #[.string s, .slice o 0 c] 40)
      have hg0 := World.grownBy_alloc w (.cells #[.string s, .slice o 0 c] 40) (Value.slice vo l.length vc).ownBlock
      clear ho hge hgl hgood hs hr' hexp ih hbd hst hrow hatom hb htx hblen
      generalize nameB s.data.toList = b1 at *
      generalize hasS bound s = b2 at *
      generalize hasS l s = b3 at *
      cases b1
      · go_enter Try.func81, Try.ntmps81
        go_wp2_with fail
        refine (HM.out _).mono ?_
        rintro e w1 ⟨rfl, rfl⟩
        go_wp2
        go_ret
        exact ⟨_, rfl, by rw [HT.out]; exact HROW.out.alloc _, hg0, fun k hk => .inl hk⟩
      · cases b2
        rotate_left
        · go_enter Try.func81, Try.ntmps81
          go_wp2_with fail
          refine (HM.out _).mono ?_
          rintro e w1 ⟨rfl, rfl⟩
          go_wp2_with fail
          refine (HH1.out _ bel).mono ?_
          rintro e w2 ⟨rfl, rfl⟩
          go_wp2
          go_ret
          exact ⟨_, rfl, by rw [HT.out]; exact HROW.out.alloc _, hg0, fun k hk => .inl hk⟩
        · cases b3
          rotate_left
          · go_enter Try.func81, Try.ntmps81
            go_wp2_with fail
            refine (HM.out _).mono ?_
            rintro e w1 ⟨rfl, rfl⟩
            go_wp2_with fail
            refine (HH1.out _ bel).mono ?_
            rintro e w2 ⟨rfl, rfl⟩
            go_wp2_with fail
            refine (HH2.out _ bel).mono ?_
            rintro e w3 ⟨rfl, rfl⟩
            go_wp2
            go_ret
            exact ⟨_, rfl, by rw [HT.out]; exact HROW.out.alloc _, hg0, fun k hk => .inl hk⟩
          · go_enter Try.func81, Try.ntmps81
            go_wp2_with fail
            refine (HM.out _).mono ?_
            rintro e w1 ⟨rfl, rfl⟩
            go_wp2_with fail
            refine (HH1.out _ bel).mono ?_
            rintro e w2 ⟨rfl, rfl⟩
            go_wp2_with fail
            refine (HH2.out _ bel).mono ?_
            rintro e w3 ⟨rfl, rfl⟩
            go_wp2_with (at_builtin; refine wpList_append_str rfl (.tmp 30) (.tmp 33) rfl base _ rfl l _ 1 rfl s (by simp) (HROW.out.alloc _) hln (by simp; omega) ?_; intro g2 cap2 w2 hrow2 hg2 hown2)
            go_ret
            refine ⟨.slice (some ⟨g2, 0, none⟩) (l.length + 1) cap2, rfl, by rw [HT.out]; exact hrow2, ?_, ?_⟩
            · exact ((World.grownBy_alloc _ _ _).via (World.grownBy_alloc _ _ none) (fun k h => by cases h)).via hg2 (fun k h => .inl h)
            · intro k hk
              simp only [Value.ownBlock, Option.some.injEq] at hk
              subst hk
              rcases hown2 with h | h
              · exact .inl h
              · right; simp at h; omega
    | cons p ps =>
      have hse : s.data.toList = [] := Classical.byContradiction fun h => absurd (hge.2 h) (by simp)
      have hemp : s.toList.isEmpty = true := by rw [Lib.toList_data, hse]; rfl
      have hemp2 : (s.toList == []) = true := by rw [Lib.toList_data, hse]; rfl
      obtain ⟨b, off, rfl, hAb, hc⟩ := hs.uncons
      obtain ⟨k, hk, hk2, hk1, hkn, -, hkx⟩ := expr_cases hexp
      have hne : (Tree.node s (p :: ps)).parts ≠ [] := by simp [Tree.parts]
      have hpp : ∀ (i : Nat) (q : Tree), k ≤ i → (p :: ps)[i]? = some q → q.sz ≤ n ∧ q.sz + 1 ≤ (Tree.node s (p :: ps)).sz ∧ q.text.length ≤ 12000 ∧ q.good = true ∧ q.isExpr = true := fun i q hi hq => by
        have h1 := Tree.part_sz (t := .node s (p :: ps)) (List.mem_of_getElem? hq)
        have h2 := text_part_le (a := s) (List.mem_of_getElem? hq)
        exact ⟨by omega, by omega, by omega, Tree.good_part _ _ _ hq hgl, hkx i q hi hq⟩
      have hkg := kidsOf_get p.atom.data.toList (ps.length + 1) (by omega)
      have hkl := kidsOf_length p.atom.data.toList (ps.length + 1) (by omega)
      rw [hk] at hkg hkl
      have HS : Hid (∀ (i : Nat) (q : Tree), k ≤ i → i < ps.length + 1 → (p :: ps)[i]? = some q → (Tree.node s (p :: ps)).occTo bound (i + 1 - k) = (Tree.node s (p :: ps)).occTo bound (i - k) ++ q.occ (bound ++ (Tree.node s (p :: ps)).bindsAt i) ∧ ((Tree.node s (p :: ps)).occTo bound (i - k)).length + q.sz + 1 ≤ (Tree.node s (p :: ps)).sz) := fun i q hi hil hq => by
        have h1 : (kidsOf (Tree.node s (p :: ps)).hd.data.toList (Tree.node s (p :: ps)).parts.length)[i - k]? = some i := by
          have := hkg (i - k) (by omega)
          rw [show k + (i - k) = i from by omega] at this
          exact this
        have h2 : nth (Tree.node s (p :: ps)).parts i = q := nth_of hq
        rw [show i + 1 - k = (i - k) + 1 from by omega]
        have h3 := occTo_succ bound h1
        have h4 := occTo_room bound hne h1
        rw [h2] at h3 h4
        exact ⟨h3, h4⟩
      have HE : Hid (∀ i, ps.length + 1 ≤ i → (Tree.node s (p :: ps)).occTo bound (i - k) = (Tree.node s (p :: ps)).occ bound) := fun i hi => occTo_end bound hne (by show (kidsOf p.atom.data.toList (ps.length + 1)).length ≤ _; omega)
      have HZ : Hid ((Tree.node s (p :: ps)).occTo bound (k - k) = []) := by show _ = _; rw [Nat.sub_self]; exact occTo_zero _ _
      have HBL : Hid (∀ i, ((Tree.node s (p :: ps)).bindsAt i).length ≤ 2) := fun i => bindsAt_len _ i
      have HBI := Lib.hid (fun (i : Nat) A v w hr hi => l2Binds_any s p ps i A v w hr hexp hi)
      have HK := Lib.hid (l2Kids_any p.atom)
      rw [hk2] at HK
      have hll := Tree.length_le_szL (p :: ps)
      have hlN : ps.length + 1 ≤ 24000 := by simp only [Tree.sz, List.length_cons] at hb hll; omega
      have HIH := Lib.hid (fun (i : Nat) (q : Tree) (hi : k ≤ i) (hq : (p :: ps)[i]? = some q) (tv' lv' : Value) (bd l' : List ByteArray) (ob' : Option Addr) (nb' cb' : Nat) (W : World) (hr : Rep W A q tv') (hbd : Strs W ob' nb' bd) (hba : ∀ a, ob' = some a → a.block < W.heap.size ∧ lv'.ownBlock ≠ some a.block) (hrow : SRow W base lv' l') (hbase : base ≤ W.heap.size) (h1 : l'.length + q.sz ≤ 1000000000) (h2 : bd.length + 2 * q.sz ≤ 1000000) =>
        ih q A tv' lv' bd l' ob' nb' cb' base W (hpp i q hi hq).1 hr hA hbd hba hrow hbase h1 h2 (by have := (hpp i q hi hq).2.1; omega) (hpp i q hi hq).2.2.1 (hpp i q hi hq).2.2.2.1 (hpp i q hi hq).2.2.2.2)
      have hg0 := World.grownBy_alloc w (.cells #[.string s, .slice (some ⟨b, off, none⟩) (ps.length + 1) c] 40) (Value.slice vo l.length vc).ownBlock
      have hown : ∀ x, (Value.slice vo l.length vc).ownBlock = some x → base ≤ x ∧ x < w.heap.size := fun x hx => hrow.lt x hx
      have HRK : Hid (∀ W, (w.alloc (.cells #[.string s, .slice (some ⟨b, off, none⟩) (ps.length + 1) c] 40)).grownBy W (Value.slice vo l.length vc).ownBlock → Keeps A w W) := fun W hg => (Keeps.alloc A w _).trans (Keeps.grown hg fun b hb e => by have := (hown _ e.symm).1; have := hA b hb; omega)
      have HRC : Hid (∀ W, (w.alloc (.cells #[.string s, .slice (some ⟨b, off, none⟩) (ps.length + 1) c] 40)).grownBy W (Value.slice vo l.length vc).ownBlock → RepC W A (p :: ps) b off) := fun W hg => RepC.keep (HRK.out W hg) hAb _ _ hc
      have HRT : Hid (∀ W, (w.alloc (.cells #[.string s, .slice (some ⟨b, off, none⟩) (ps.length + 1) c] 40)).grownBy W (Value.slice vo l.length vc).ownBlock → Rep W A (.node s (p :: ps)) (.agg #[.string s, .slice (some ⟨b, off, none⟩) (ps.length + 1) c])) := fun W hg => Rep.keep (HRK.out W hg) _ _ hr'
      have HBX : Hid (∀ W, (w.alloc (.cells #[.string s, .slice (some ⟨b, off, none⟩) (ps.length + 1) c] 40)).grownBy W (Value.slice vo l.length vc).ownBlock → W.cell? ⟨w.heap.size, 0, none⟩ = some (.string s) ∧ W.cell? ⟨w.heap.size, 1, none⟩ = some (.slice (some ⟨b, off, none⟩) (ps.length + 1) c)) := fun W hg =>
        have hob : some w.heap.size ≠ (Value.slice vo l.length vc).ownBlock := fun e => by have := (hown _ e.symm).2; omega
        ⟨hg.cell (two_new _ _ _ _).1 hob, hg.cell (two_new _ _ _ _).2 hob⟩
      have HBW : Hid (∀ W, (w.alloc (.cells #[.string s, .slice (some ⟨b, off, none⟩) (ps.length + 1) c] 40)).grownBy W (Value.slice vo l.length vc).ownBlock → Strs W ob nb bound) := fun W hg => (hbd.keep ((Below.refl _ _).alloc (Nat.le_refl _) _)).grown hg (fun a ha e => (hba a ha).2 e.symm)
      have HOW := Lib.hid hown
      have hAbb := hA b hAb
      simp only [List.length_cons] at hcap hll
      generalize (Tree.node s (p :: ps)).occTo bound = OC at *
      generalize (Tree.node s (p :: ps)).occ bound = RES at *
      generalize (Tree.node s (p :: ps)).bindsAt = BI at *
      have hbl : bound.length ≤ 1000000 := by omega
      obtain ⟨x0, y0⟩ := two_new w (.string s) (.slice (some ⟨b, off, none⟩) (ps.length + 1) c) 40
      obtain ⟨o0, n0, c0, ca0, cb0, r0⟩ := (HRC.out _ (World.grownBy.of_below (Below.refl _ _) _)).nth 0 (k := off) rfl rfl
      have hSZ : bound.length + 2 * (Tree.node s (p :: ps)).sz ≤ 1000000 := hblen
      have hLZ : l.length + (Tree.node s (p :: ps)).sz ≤ 1000000000 := hlen
      generalize (Tree.node s (p :: ps)).sz = SZ at HS hSZ hLZ
      clear hs hc hr' hexp hkx hpp hk2 hk hb htx hgood hgl hge hse hbd hba hrow hst ih hg0 hown hne hkg hkl hn hlen hblen hatom r0
      go_enter Try.func81, Try.ntmps81
      go_wp2_with fail
      refine (HK.out _).mono ?_
      rintro e w1 ⟨rfl, rfl⟩
      go_wp2
      go_loopw [9, 2] (fun iv lu wr => ∃ (i : Nat) (lv : Value), k ≤ i ∧ i ≤ ps.length + 1 ∧ iv = .int .i64 i ∧ lv = lu ∧ Hid (SRow wr base lv ((OC (i - k)).foldl addS l)) ∧ Hid ((w.alloc (.cells #[.string s, .slice (some ⟨b, off, none⟩) (ps.length + 1) c] 40)).grownBy wr (Value.slice vo l.length vc).ownBlock) ∧ Hid (∀ b, lv.ownBlock = some b → (Value.slice vo l.length vc).ownBlock = some b ∨ w.heap.size < b)) (fun iv _ _ => ps.length + 1 - (intOf iv).toNat)
      case atStart => exact ⟨k, _, Nat.le_refl _, by omega, rfl, rfl, by rw [HZ.out]; exact Lib.hid (HROW.out.alloc _), World.grownBy.of_below (Below.refl _ _) _, fun k hk => .inl hk⟩
      case round =>
        obtain ⟨i, lv, hi1, hi, rfl, rfl, HR, HG, HO⟩ := hrel
        obtain ⟨x1, y1⟩ := HBX.out _ HG.out
        have hsz : w.heap.size + 1 ≤ wr.heap.size := by have := HG.out.size; simpa using this
        by_cases hlt : i < ps.length + 1
        · obtain ⟨q, hq⟩ : ∃ q, (p :: ps)[i]? = some q := ⟨(p :: ps)[i]'(by simpa using hlt), by simp⟩
          obtain ⟨o', n', c', hx, hy, hrp⟩ := (HRC.out _ HG.out).nth i (p := q) (k := off + i * 2) hq rfl
          obtain ⟨h3, h4⟩ := HS.out i q hi1 hlt hq
          have h6 : ((OC (i - k)).foldl addS l).length ≤ l.length + (OC (i - k)).length := foldAdd_len (OC (i - k)) l
          have h7 := HBL.out i
          have hlq : k ≤ i := hi1
          have HCl := Lib.hid (fun ob' nb' cb' W hr hbd hba hrow hbase => HIH.out i q hi1 hq (.agg #[.string q.atom, .slice o' n' c']) lv (bound ++ BI i) ((OC (i - k)).foldl addS l) ob' nb' cb' W hr hbd hba hrow hbase (by omega) (by simp only [List.length_append]; omega))
          rw [← List.foldl_append, ← h3] at HCl
          have HAL : Hid (∀ (W : World) (o : Obj), Below wr.heap.size wr W → Below wr.heap.size wr (W.alloc o)) := fun W o h => h.alloc h.size o
          have HTR : Hid (∀ (W W' : World), Below wr.heap.size wr W → Below W.heap.size W W' → Below wr.heap.size wr W') := fun W W' h h' => h.trans (h'.mono h.size)
          have hlown : ∀ x, lv.ownBlock = some x → base ≤ x ∧ x < wr.heap.size := fun x hx => HR.out.lt x hx
          have HSS : Hid (∀ W, Below wr.heap.size wr W → W.cell? ⟨w.heap.size, 0, none⟩ = some (.string s) ∧ W.cell? ⟨w.heap.size, 1, none⟩ = some (.slice (some ⟨b, off, none⟩) (ps.length + 1) c) ∧ W.cell? ⟨b, off + i * 2, none⟩ = some (.string q.atom) ∧ W.cell? ⟨b, off + i * 2 + 1, none⟩ = some (.slice o' n' c')) :=
            fun W h => ⟨(h.cell (lt_of_cell x1)).trans x1, (h.cell (lt_of_cell y1)).trans y1, (h.cell (lt_of_cell hx)).trans hx, (h.cell (lt_of_cell hy)).trans hy⟩
          have HS2 : Hid (∀ W, wr.grownBy W lv.ownBlock → W.cell? ⟨w.heap.size, 0, none⟩ = some (.string s) ∧ W.cell? ⟨w.heap.size, 1, none⟩ = some (.slice (some ⟨b, off, none⟩) (ps.length + 1) c) ∧ W.cell? ⟨b, off + i * 2, none⟩ = some (.string q.atom) ∧ W.cell? ⟨b, off + i * 2 + 1, none⟩ = some (.slice o' n' c')) := fun W hg =>
            have hb1 : some w.heap.size ≠ lv.ownBlock := fun e => by
              rcases HO.out _ e.symm with h | h
              · have := (HOW.out _ h).2; omega
              · omega
            have hb2 : some b ≠ lv.ownBlock := fun e => by have := (hlown _ e.symm).1; omega
            ⟨hg.cell x1 hb1, hg.cell y1 hb1, hg.cell hx hb2, hg.cell hy hb2⟩
          have HLO := Lib.hid hlown
          have HSB : Hid (∀ W, Below wr.heap.size wr W → Strs W ob nb bound) := fun W h => (HBW.out _ HG.out).keep h
          have HRTW : Hid (∀ W, Below wr.heap.size wr W → Rep W A (.node s (p :: ps)) (.agg #[.string s, .slice (some ⟨b, off, none⟩) (ps.length + 1) c])) := fun W h => Rep.keep (Keeps.below h) _ _ (HRT.out _ HG.out)
          have HRQ : Hid (∀ W, Below wr.heap.size wr W → Rep W A q (.agg #[.string q.atom, .slice o' n' c'])) := fun W h => Rep.keep (Keeps.below h) _ _ hrp
          have HRR : Hid (∀ W, Below wr.heap.size wr W → SRow W base lv ((OC (i - k)).foldl addS l)) := fun W h => HR.out.below h
          have hbw0 : Below wr.heap.size wr wr.drew := (Below.refl _ _).drew
          have hbs : base ≤ wr.heap.size := by omega
          clear hq hrp h3 h4 h6 hlown
          generalize q.atom = qa at *
          go_wp2_with fail
          go_region_held3 (fun w' => w'.cell? ⟨w.heap.size, 0, none⟩ = some (.string s) ∧ w'.cell? ⟨w.heap.size, 1, none⟩ = some (.slice (some ⟨b, off, none⟩) (ps.length + 1) c) ∧ w'.cell? ⟨b, off + i * 2, none⟩ = some (.string qa) ∧ w'.cell? ⟨b, off + i * 2 + 1, none⟩ = some (.slice o' n' c'))
              (first | exact HS2.out _ (by with_reducible assumption) | exact HSS.out _ (by repeat' (first | with_reducible assumption | with_reducible exact Below.refl _ _ | with_reducible refine Below.drew ?_ | with_reducible refine HAL.out _ _ ?_)))
              (first
                | (refine step_append_fresh (by rfl) (.tmp 55) (.tmp 56) (by rfl) wr.heap.size wr.heap.size (by rfl) ob nb cb (by rfl) bound ?_ ?_ ?_ ?_ ?_; (exact SRow.empty wr.drew (Nat.le_refl _)); (exact HSB.out _ (HAL.out _ _ hbw0)); (omega); (exact (HAL.out _ _ hbw0).size); intro o7 c7 w7 hrow7 hb7; have hbw7 := HTR.out _ _ (HAL.out _ _ hbw0) hb7)
                | (refine step_append_strs (by rfl) (.tmp 57) (.tmp 60) (by rfl) wr.heap.size (.slice o7 bound.length c7) (by rfl) bound o6 (BI i).length c6 (by rfl) (BI i) ?_ ?_ ?_ ?_ ?_; (exact hrow7.below hb6); (exact hrow6.read); (omega); (exact hbw6.size); intro o8 c8 w8 hrow8 hg8; have hbw8 : Below wr.heap.size wr w8 := Below.grown hbw6 hg8 hbw6.size (fun k hk => (hrow7.lt k hk).1))
                | (go_at_call 75; refine (HBI.out i A _ _ ?_ (by omega)).mono ?_; (exact HRTW.out _ (by repeat' (first | with_reducible assumption | with_reducible exact Below.refl _ _ | with_reducible refine Below.drew ?_ | with_reducible refine HAL.out _ _ ?_))); rintro e w6 ⟨v6, rfl, hrow6, hb6⟩; obtain ⟨o6, c6, rfl, -⟩ := hrow6.forms; have hbw6 := HTR.out _ _ (by repeat' (first | with_reducible assumption | with_reducible exact Below.refl _ _ | with_reducible refine Below.drew ?_ | with_reducible refine HAL.out _ _ ?_)) hb6)
                | (go_at_call 81; refine (HCl.out _ _ _ _ (HRQ.out _ hbw8) (by first | exact hrow8.read | (have h := hrow8.read; simpa using h)) (fun a ha => ⟨(hrow8.addr a ha).2, fun e => by have h1 := (hrow8.addr a ha).1; have h2 := (HLO.out _ e).2; omega⟩) (HRR.out _ hbw8) (Nat.le_trans hbs hbw8.size)).mono ?_; rintro e w9 ⟨v9, rfl, hrow9, hg9, ho9⟩; have hgw9 : wr.grownBy w9 lv.ownBlock := (World.grownBy.of_below hbw8 _).via hg9 (fun k h => .inl h)))
          all_goals
            have hs8 := hbw8.size
            have HR9 := Lib.hid hrow9
            have HO9 := Lib.hid ho9
            have HG9 : Hid ((w.alloc (.cells #[.string s, .slice (some ⟨b, off, none⟩) (ps.length + 1) c] 40)).grownBy w9 (Value.slice vo l.length vc).ownBlock) := HG.out.via hgw9 (fun k h => by rcases HO.out k h with h | h; exact .inl h; right; simp; omega)
            clear hrow9 ho9 hg9 hgw9
            go_wp2
            go_roundw
            case rel => exact ⟨i + 1, _, by omega, by omega, by go_num, rfl, HR9, HG9, fun k h => by
              rcases HO9.out k h with h | h
              · exact HO.out k h
              · right; omega⟩
            case measure => simp [intOf]; omega
        · have HF : Hid (SRow wr base lv (RES.foldl addS l)) := by
            have := HR.out
            rw [HE.out i (by omega)] at this
            exact this
          go_wp2
          go_ret
          exact ⟨_, rfl, HF.out, (World.grownBy_alloc _ _ _).via HG.out (fun k h => .inl h), fun k h => by
            rcases HO.out k h with h | h
            · exact .inl h
            · right; omega⟩
end Go.Proofs.Ytoihkjnfklogpaa
