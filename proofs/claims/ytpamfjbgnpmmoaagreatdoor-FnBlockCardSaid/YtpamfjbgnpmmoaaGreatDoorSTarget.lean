/- The contracts of the reference's functions that tell target types. -/
import Derived.Test.YtpamfjbgnpmmoaaGreatDoorTarget
namespace Go.Proofs.YtpamfjbgnpmmoaaGreatDoor
open Go.RowKit

set_option maxRecDepth 100000 in
set_option maxHeartbeats 1600000 in
theorem l6tType_any (u : List UInt8 → Bool) (opn : Bool) (HU : opn = true → ∀ (s : ByteArray) (W : World), s.size ≤ 1000000000 → Calls Tryz.prog 42 #[.string s] W fun e w' => e = .returned (.bool (u s.data.toList)) ∧ W = w') (n : Nat) :
    ∀ (t : Tree) (hidden : Bool) (A : Nat → Prop) (v : Value) (w : World), t.sz ≤ n → Rep w A t v → t.sz ≤ 1000000000 → t.good = true → (opn = true → Tree.atomsLe 1000000000 t) →
    Calls Tryz.prog 29 #[v, .bool hidden, .bool opn] w fun e w' => e = .returned (.bool (t.target u hidden opn)) ∧ Below w.heap.size w w' := by
  induction n with
  | zero => intro t hidden A v w h; cases t; simp [Tree.sz] at h
  | succ n ih =>
    intro t hidden A v w hn hr hb hgood hat
    obtain ⟨s, ps⟩ := t
    simp only [Rep] at hr
    obtain ⟨o, l, c, rfl, hs, hcap⟩ := hr
    obtain rfl := hs.len
    obtain ⟨hgl, hge⟩ := Tree.good_parts hgood
    cases ps with
    | nil =>
      have B0 := boxed0 w (.string s) (.slice o 0 c) 57
      obtain ⟨x0, y0, hB0, hl0⟩ := boxed B0
      have hemp : s.toList.isEmpty = false := by rw [Lib.toList_data]; simpa using hge.1 rfl
      have ht : (Tree.node s []).target u hidden opn = ((s.toList == [105]) || (hidden && (s.toList == [118])) || (opn && u s.data.toList)) := by
        rw [Lib.toList_data, Bool.eq_iff_iff]; simp [Tree.target]
      have HT := Lib.hid ht
      have HU1 : opn = true → Hid (∀ W, Calls Tryz.prog 42 #[.string s] W fun e w' => e = .returned (.bool (u s.data.toList)) ∧ W = w') := fun h W => HU h s W (hat h).1
      clear ht hge HU ih
      generalize u s.data.toList = uu at *
      generalize hti : (Tree.node s []).target u hidden opn = tt at *
      cases e1 : (s.toList == [105])
      · cases hidden
        · cases opn
          · go_enter Tryz.func29, Tryz.ntmps29
            go_wp2
            go_ret
            exact ⟨ret_bool (by rw [HT.out, e1]; rfl), hB0⟩
          · have HU' := HU1 rfl
            clear HU1 hat
            go_enter Tryz.func29, Tryz.ntmps29
            go_wp2_with (go_at_call 42; refine (HU'.out _).mono ?_; rintro e w' ⟨rfl, rfl⟩)
            go_ret
            exact ⟨ret_bool (by rw [HT.out, e1]; rfl), hB0⟩
        · cases e2 : (s.toList == [118])
          · cases opn
            · go_enter Tryz.func29, Tryz.ntmps29
              go_wp2
              go_ret
              exact ⟨ret_bool (by rw [HT.out, e1, e2]; rfl), hB0⟩
            · have HU' := HU1 rfl
              clear HU1 hat
              go_enter Tryz.func29, Tryz.ntmps29
              go_wp2_with (go_at_call 42; refine (HU'.out _).mono ?_; rintro e w' ⟨rfl, rfl⟩)
              go_ret
              exact ⟨ret_bool (by rw [HT.out, e1, e2]; rfl), hB0⟩
          · go_enter Tryz.func29, Tryz.ntmps29
            go_wp2
            go_ret
            exact ⟨ret_bool (by rw [HT.out, e1, e2]; rfl), hB0⟩
      · go_enter Tryz.func29, Tryz.ntmps29
        go_wp2
        go_ret
        exact ⟨ret_bool (by rw [HT.out, e1]; rfl), hB0⟩
    | cons p ps =>
      have hemp : s.toList.isEmpty = true := by rw [Lib.toList_data]; have : s.data.toList = [] := Classical.byContradiction fun h => absurd (hge.2 h) (by simp); rw [this]; rfl
      obtain ⟨b, off, rfl, hA, hc⟩ := hs.uncons
      have hszp : ∀ (i : Nat) (q : Tree), (p :: ps)[i]? = some q → q.sz ≤ n ∧ q.sz ≤ 1000000000 := fun i q hq => by
        have := Tree.sz_part _ _ _ hq; simp only [Tree.sz] at hn hb; omega
      have hatp : ∀ (i : Nat) (q : Tree), ps[i]? = some q → opn = true → Tree.atomsLe 1000000000 q := fun i q hq h => Tree.atomsLe_part _ _ _ _ (by simpa using hq) ((hat h).2).2
      have hgp : ∀ (i : Nat) (q : Tree), (p :: ps)[i]? = some q → q.good = true := fun i q hq => Tree.good_part _ _ _ hq hgl
      have hll := Tree.length_le_szL (p :: ps)
      simp only [Tree.sz] at hb
      have ht : (Tree.node s (p :: ps)).target u hidden opn = if p.atom.data.toList = [101] then decide (ps.length = 1) && Tree.targetL u true opn ps
          else (decide (p.atom.data.toList = [116]) || decide (p.atom.data.toList = [99])) && Tree.targetL u hidden opn ps := by simp only [Tree.target]
      have HT := Lib.hid ht
      clear ht hge
      have B0 := boxed0 w (.string s) (.slice (some ⟨b, off, none⟩) (ps.length + 1) c) 57
      obtain ⟨x0, y0, hB0, hl0⟩ := boxed B0
      simp only [List.length_cons] at hcap hll
      have HC0 := Lib.hid hc
      obtain ⟨o0, n0, c0, ca0, cb0, r0⟩ := (RepC.keep (Keeps.below hB0) hA _ _ hc).nth 0 (k := off) rfl rfl
      clear hc hs
      by_cases he : p.atom.data.toList = [101]
      · have e1 : (p.atom.toList == [101]) = true := by rw [Lib.toList_data]; simpa using he
        by_cases hl1 : ps.length = 1
        · obtain ⟨x, rfl⟩ : ∃ x, ps = [x] := by
            match ps, hl1 with
            | [x], _ => exact ⟨x, rfl⟩
          have B0 := boxed0 w (.string s) (.slice (some ⟨b, off, none⟩) 2 c) 57
          obtain ⟨x0, y0, hB0, hl0⟩ := boxed B0
          obtain ⟨o0, n0, c0, ca0, cb0, r0⟩ := (RepC.keep (Keeps.below hB0) hA _ _ HC0.out).nth 0 (k := off) rfl rfl
          have HT2 := Lib.hid (show (Tree.node s [p, x]).target u hidden opn = x.target u true opn from by rw [HT.out, if_pos he]; simp [Tree.targetL])
          have HX := Lib.hid (fun v w' hr => ih x true A v w' (hszp 1 x rfl).1 hr (hszp 1 x rfl).2 (hgp 1 x rfl) (hatp 0 x rfl))
          obtain ⟨o1, n1, c1, ca1, cb1, rx⟩ := (RepC.keep (Keeps.below hB0) hA _ _ HC0.out).nth 1 (k := off + 2) rfl rfl
          clear ih hszp hatp hat he HT hl1 HU hgp
          go_enter Tryz.func29, Tryz.ntmps29
          go_wp2_with fail
          refine (HX.out _ _ rx).mono ?_
          rintro e w1 ⟨rfl, hb1⟩
          go_wp2
          go_ret
          exact ⟨ret_bool (by rw [HT2.out]), hB0.trans (hb1.mono hB0.size)⟩
        · have hlb : (((ps.length : Int) + 1) == 2) = false := by simp only [beq_eq_false_iff_ne, ne_eq]; omega
          have HT2 := Lib.hid (show (Tree.node s (p :: ps)).target u hidden opn = false from by rw [HT.out, if_pos he]; simp [hl1])
          clear ih hszp hatp hat he HT HU hgp
          go_enter Tryz.func29, Tryz.ntmps29
          go_wp2
          go_ret
          exact ⟨ret_bool (by rw [HT2.out]), hB0⟩
      · have e1 : (p.atom.toList == [101]) = false := by rw [Lib.toList_data]; simpa using he
        by_cases htc : p.atom.data.toList = [116] ∨ p.atom.data.toList = [99]
        · have HT2 := Lib.hid (show (Tree.node s (p :: ps)).target u hidden opn = Tree.targetL u hidden opn ps from by rw [HT.out, if_neg he]; rcases htc with h | h <;> simp [h])
          have HQ := Lib.hid (fun (i : Nat) (q : Tree) (hq : ps[i]? = some q) v w' hr => ih q hidden A v w' (hszp (i + 1) q (by simpa using hq)).1 hr (hszp (i + 1) q (by simpa using hq)).2 (hgp (i + 1) q (by simpa using hq)) (hatp i q hq))
          have e23 : (p.atom.toList == [116]) = true ∨ ((p.atom.toList == [116]) = false ∧ (p.atom.toList == [99]) = true) := by
            rw [Lib.toList_data]
            rcases htc with h | h
            · left; simpa using h
            · right; rw [h]; exact ⟨rfl, rfl⟩
          clear ih hszp hatp hat he HT HU hgp htc
          rcases e23 with e2 | ⟨e2, e3⟩
          all_goals
            go_enter Tryz.func29, Tryz.ntmps29
            go_wp2
            go_loopw [8] (fun i wr => ∃ k : Nat, 1 ≤ k ∧ k ≤ ps.length + 1 ∧ i = .int .i64 k ∧ Hid (∀ (j : Nat) (q : Tree), j < k - 1 → ps[j]? = some q → q.target u hidden opn = true) ∧ Below (w.heap.size + 1) (w.alloc (.cells #[.string s, .slice (some ⟨b, off, none⟩) (ps.length + 1) c] 57)) wr) (fun i _ => ps.length + 1 - (intOf i).toNat)
            case atStart => exact ⟨1, Nat.le_refl _, by omega, rfl, fun j q hj => by omega, B0⟩
            case round =>
              obtain ⟨k, hk1, hk, rfl, HK, hbr⟩ := hrel
              obtain ⟨x1, y1, hB1, hl1⟩ := boxed hbr
              by_cases hlt : k < ps.length + 1
              · obtain ⟨q, hq⟩ : ∃ q, ps[k - 1]? = some q := ⟨ps[k - 1]'(by omega), by simp⟩
                obtain ⟨o', n', c', hx, hy, hrp⟩ := (RepC.keep (Keeps.below hB1) hA _ _ HC0.out).nth k (p := q) (k := off + k * 2) (by rw [show k = (k - 1) + 1 from by omega]; simpa using hq) rfl
                have HCl := Lib.hid (HQ.out (k - 1) q hq _ wr hrp)
                have HN := Lib.hid hq
                clear hq
                go_wp2_with fail
                refine HCl.out.mono ?_
                rintro e w1 ⟨rfl, hb1⟩
                have hB2 := hbr.next hb1
                cases hqt : q.target u hidden opn
                · have HF := Lib.hid (targetL_no u hidden opn ps (k - 1) q HN.out hqt)
                  clear hqt HCl
                  go_wp2
                  go_ret
                  exact ⟨ret_bool (by rw [HT2.out, HF.out]), (boxed hB2).2.2.1⟩
                · have HZ := Lib.hid hqt
                  clear hqt HCl
                  go_wp2
                  go_roundw
                  case rel => exact ⟨k + 1, by omega, by omega, by go_num, fun j q' hj hq' => by
                    by_cases h : j = k - 1
                    · subst h; rw [HN.out] at hq'; cases hq'; exact HZ.out
                    · exact HK.out j q' (by omega) hq', hB2⟩
                  case measure => simp [intOf]; omega
              · have HF := Lib.hid (targetL_take_all u hidden opn ps fun i q hq => HK.out i q (by have := (List.getElem?_eq_some_iff.1 hq).1; omega) hq)
                go_wp2
                go_ret
                exact ⟨ret_bool (by rw [HT2.out, HF.out]), hB1⟩
        · have e2 : (p.atom.toList == [116]) = false := by rw [Lib.toList_data]; simp only [beq_eq_false_iff_ne, ne_eq]; exact fun h => htc (.inl h)
          have e3 : (p.atom.toList == [99]) = false := by rw [Lib.toList_data]; simp only [beq_eq_false_iff_ne, ne_eq]; exact fun h => htc (.inr h)
          have HT2 := Lib.hid (show (Tree.node s (p :: ps)).target u hidden opn = false from by rw [HT.out, if_neg he]; simp only [Bool.and_eq_false_imp, Bool.or_eq_true, decide_eq_true_eq]; exact fun h => absurd h htc)
          clear ih hszp hatp hat he HT HU hgp htc
          go_enter Tryz.func29, Tryz.ntmps29
          go_wp2
          go_ret
          exact ⟨ret_bool (by rw [HT2.out]), hB0⟩

set_option maxRecDepth 100000 in
set_option maxHeartbeats 400000 in
theorem sTargetValid_any (s : ByteArray) (w : World) (hs : s.size ≤ 1000000000) :
    Calls Tryz.prog 16 #[.string s] w fun e w' => e = .returned (.bool (ptarget s.data.toList).isSome) ∧ Below w.heap.size w w' := by
  have HN := Lib.hid (ptarget_isSome s.data.toList)
  cases hp : parse s.data.toList with
  | none =>
    have HP := Lib.hid hp
    clear hp
    go_enter Tryz.func16, Tryz.ntmps16
    go_wp2_with fail
    refine (l1Parse_any _ _ hs).mono ?_
    rintro e w1 ⟨a, o, l, c, ok, t, rfl, hb1, hr, hok, -⟩
    rw [HP.out] at hok
    have hok' : ok = false := hok
    subst hok'
    clear hok
    go_wp2
    go_ret
    exact ⟨ret_bool (by rw [HN.out, HP.out]), hb1.alloc hb1.size _⟩
  | some t' =>
    have hsz := parse_sz hp
    have HP := Lib.hid hp
    clear hp
    go_enter Tryz.func16, Tryz.ntmps16
    go_wp2_with fail
    refine (l1Parse_any _ _ hs).mono ?_
    rintro e w1 ⟨a, o, l, c, ok, t, rfl, hb1, hr, hok, ht⟩
    rw [HP.out] at hok
    have hok' : ok = true := hok
    subst hok'
    obtain rfl := ht _ HP.out
    clear hok ht
    go_wp2_with fail
    refine (l6tType_any unkI false (fun h => by cases h) _ _ _ _ _ _ (Nat.le_refl _) (Rep.keep (Keeps.alloc _ _ _) _ _ hr) (by omega) (parse_good HP.out) (fun h => by cases h)).mono ?_
    rintro e w2 ⟨rfl, hb2⟩
    go_wp2
    go_ret
    exact ⟨ret_bool (by rw [HN.out, HP.out]), (hb1.alloc hb1.size _).trans (hb2.mono (by have := hb1.size; simp; omega))⟩
end Go.Proofs.YtpamfjbgnpmmoaaGreatDoor
