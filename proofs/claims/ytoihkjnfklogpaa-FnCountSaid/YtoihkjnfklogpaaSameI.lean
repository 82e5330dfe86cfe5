/- Are two forms the same: of the program (a seat without targets). -/
import Derived.Test.YtoihkjnfklogpaaEqB
import Derived.Test.YtoihkjnfklogpaaStrs
import Derived.Test.YtoihkjnfklogpaaQ1
namespace Go.Proofs.Ytoihkjnfklogpaa
open Go.RowKit

set_option maxRecDepth 100000 in
set_option maxHeartbeats 800000 in
theorem equalFunc_any (ps qs : List Tree) (A B : Nat → Prop)
    (HQ : Hid (∀ (i : Nat) (p q : Tree), ps[i]? = some p → qs[i]? = some q → ∀ v v' w', Rep w' A p v → Rep w' B q v' → Calls Try.prog 63 #[v, v'] w' fun e w'' => e = .returned (.bool (p.eqB q)) ∧ Below w'.heap.size w' w''))
    (w : World) (o o' : Option Addr) (c c' : Nat) (hs : RepS w A ps o ps.length) (hs' : RepS w B qs o' qs.length) (hln : ps.length ≤ 1000000000) :
    Calls Try.prog 90 #[.slice o ps.length c, .slice o' qs.length c', .func (Fn.func 63) #[] #[]] w
      fun e w' => e = .returned (.bool (Tree.eqL ps qs)) ∧ Below w.heap.size w w' := by
  by_cases hl : ps.length = qs.length
  · have hl1 : ((ps.length : Int) != (qs.length : Int)) = false := by simp [hl]
    have HL := Lib.hid hl
    have hl2 : (ps.length : Int) = (qs.length : Int) := by omega
    clear hl
    go_enter Try.func90, Try.ntmps90
    go_wp2
    go_loopw [17] (fun i wr => ∃ k : Nat, k ≤ ps.length ∧ i = .int .i64 k ∧ Hid (∀ (j : Nat) (p q : Tree), j < k → ps[j]? = some p → qs[j]? = some q → p.eqB q = true) ∧ Below w.heap.size w wr) (fun i _ => ps.length - (intOf i).toNat)
    case atStart => exact ⟨0, Nat.zero_le _, rfl, fun j p q hj => by omega, Below.refl _ _⟩
    case round =>
      obtain ⟨k, hk, rfl, HK, hbr⟩ := hrel
      by_cases hlt : k < ps.length
      · obtain ⟨p, hp⟩ : ∃ p, ps[k]? = some p := ⟨ps[k], by simp [hlt]⟩
        have hlt' : k < qs.length := by have := HL.out; omega
        obtain ⟨q, hq⟩ : ∃ q, qs[k]? = some q := ⟨qs[k], by simp [hlt']⟩
        obtain ⟨b, off, o1, n1, c1, rfl, -, hx, hy, hrp⟩ := (RepS.keep (Keeps.below hbr) _ _ _ hs).partAt hp
        obtain ⟨b2, off2, o2, n2, c2, rfl, -, hx2, hy2, hrq⟩ := (RepS.keep (Keeps.below hbr) _ _ _ hs').partAt hq
        have hal : Below wr.heap.size wr (wr.alloc (.cells #[.string p.atom, .slice o1 n1 c1] 46)) := (Below.refl _ _).alloc (Nat.le_refl _) _
        have hal2 : Below wr.heap.size wr ((wr.alloc (.cells #[.string p.atom, .slice o1 n1 c1] 46)).alloc (.cells #[.string q.atom, .slice o2 n2 c2] 46)) := hal.alloc (by simp) _
        have hx3 := (hal.cell (lt_of_cell hx2)).trans hx2
        have hy3 := (hal.cell (lt_of_cell hy2)).trans hy2
        have HCL := Lib.hid (HQ.out k p q hp hq _ _ _ (Rep.keep (Keeps.below hal2) _ _ hrp) (Rep.keep (Keeps.below hal2) _ _ hrq))
        have HP := Lib.hid hp
        have HP' := Lib.hid hq
        clear hp hq
        go_wp2_with fail
        refine HCL.out.mono ?_
        rintro e w1 ⟨rfl, hb1⟩
        have hB1 := (hbr.trans (hal2.mono hbr.size)).trans (hb1.mono (by have := hbr.size; simp; omega))
        cases hqt : p.eqB q
        · have HF := Lib.hid (eqL_no HP.out HP'.out hqt)
          have HZ := Lib.hid hqt
          clear hqt HCL
          go_wp2
          go_ret
          exact ⟨ret_bool HF.out.symm, hB1⟩
        · have HZ := Lib.hid hqt
          clear hqt HCL
          go_wp2
          go_roundw
          case rel => exact ⟨k + 1, by omega, by go_num, fun j p' q' hj hp' hq' => by
            by_cases h : j = k
            · subst h; rw [HP.out] at hp'; rw [HP'.out] at hq'; cases hp'; cases hq'; exact HZ.out
            · exact HK.out j p' q' (by omega) hp' hq', hB1⟩
          case measure => simp [intOf]; omega
      · have HF := Lib.hid (eqL_all HL.out fun i p q hp hq => HK.out i p q (by have := (List.getElem?_eq_some_iff.1 hp).1; omega) hp hq)
        go_wp2
        go_ret
        exact ⟨ret_bool HF.out.symm, hbr⟩
  · have hl1 : ((ps.length : Int) != (qs.length : Int)) = true := by simp; omega
    have hl2 : ¬ (ps.length : Int) = (qs.length : Int) := by omega
    have HF := Lib.hid (eqL_len hl)
    clear hl
    go_enter Try.func90, Try.ntmps90
    go_wp2
    go_ret
    exact ⟨ret_bool HF.out.symm, Below.refl _ _⟩

set_option maxRecDepth 100000 in
set_option maxHeartbeats 800000 in
theorem same_any (n : Nat) : ∀ (t u : Tree) (A B : Nat → Prop) (v v' : Value) (w : World), t.sz ≤ n → Rep w A t v → Rep w B u v' → t.sz ≤ 1000000000 →
    Calls Try.prog 63 #[v, v'] w fun e w' => e = .returned (.bool (t.eqB u)) ∧ Below w.heap.size w w' := by
  induction n with
  | zero => intro t u A B v v' w h; cases t; simp [Tree.sz] at h
  | succ n ih =>
    intro t u A B v v' w hn hr hr' hb
    obtain ⟨s, ps⟩ := t
    obtain ⟨s', qs⟩ := u
    simp only [Rep] at hr hr'
    obtain ⟨o, l, c, rfl, hs, hcap⟩ := hr
    obtain rfl := hs.len
    obtain ⟨o', l', c', rfl, hs', hcap'⟩ := hr'
    obtain rfl := hs'.len
    have hln := Tree.length_le_szL ps
    simp only [Tree.sz] at hn hb
    have hB2 : Below w.heap.size w ((w.alloc (.cells #[.string s, .slice o ps.length c] 46)).alloc (.cells #[.string s', .slice o' qs.length c'] 46)) := ((Below.refl _ _).alloc (Nat.le_refl _) _).alloc (by simp) _
    have HQ : Hid (∀ (i : Nat) (p q : Tree), ps[i]? = some p → qs[i]? = some q → ∀ v v' w', Rep w' A p v → Rep w' B q v' → Calls Try.prog 63 #[v, v'] w' fun e w'' => e = .returned (.bool (p.eqB q)) ∧ Below w'.heap.size w' w'') :=
      fun i p q hp hq v v' w' h h' => ih p q A B v v' w' (by have := Tree.sz_part _ _ _ hp; omega) h h' (by have := Tree.sz_part _ _ _ hp; omega)
    have HE := Lib.hid (equalFunc_any ps qs A B HQ _ o o' c c' (RepS.keep (Keeps.below hB2) _ _ _ hs) (RepS.keep (Keeps.below hB2) _ _ _ hs') (by omega))
    have ht : (Tree.node s ps).eqB (.node s' qs) = ((s.toList == s'.toList) && Tree.eqL ps qs) := by
      rw [Lib.toList_data, Lib.toList_data]; simp only [Tree.eqB]; rw [Bool.eq_iff_iff]; simp
    have HT := Lib.hid ht
    clear ht ih HQ
    cases e1 : (s.toList == s'.toList)
    · go_enter Try.func63, Try.ntmps63
      go_wp2
      go_ret
      exact ⟨ret_bool (by rw [HT.out, e1]; rfl), hB2⟩
    · go_enter Try.func63, Try.ntmps63
      go_wp2_with fail
      refine HE.out.mono ?_
      rintro e w1 ⟨rfl, hb1⟩
      go_wp2
      go_ret
      exact ⟨ret_bool (by rw [HT.out, e1]; rfl), hB2.trans (hb1.mono hB2.size)⟩
end Go.Proofs.Ytoihkjnfklogpaa
