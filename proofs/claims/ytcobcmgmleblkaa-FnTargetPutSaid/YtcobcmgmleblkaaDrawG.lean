/- Drawing target types. -/
import Derived.Test.YtcobcmgmleblkaaDrawT
import Derived.Test.YtcobcmgmleblkaaTgtA
namespace Go.Proofs.Ytcobcmgmleblkaa
open Go.RowKit

/-- A text of a size without the letter a. -/
def NA (n : Nat) (s : ByteArray) : Prop := s.size ≤ n ∧ (97 : UInt8) ∉ s.data.toList
theorem NA.append {n m : Nat} {s t : ByteArray} (h : NA n s) (k : NA m t) : NA (n + m) (s ++ t) := by
  refine ⟨by rw [ByteArray.size_append]; have := h.1; have := k.1; omega, ?_⟩
  rw [ByteArray.data_append]
  intro hm
  simp only [Array.toList_append, List.mem_append] at hm
  exact hm.elim h.2 k.2
theorem NA.mono {n m : Nat} {s : ByteArray} (h : NA n s) (k : n ≤ m) : NA m s := ⟨Nat.le_trans h.1 k, h.2⟩

theorem type_leaf {s : ByteArray} (h : (Tree.node s []).isType = true) : s.data.toList = [105] := by
  simpa [Tree.isType] using h

theorem tgt_na (n : Nat) : ∀ t : Tree, t.sz ≤ n → t.isType = true → (97 : UInt8) ∉ t.tgt.text := by
  induction n with
  | zero => intro t h; cases t; simp [Tree.sz] at h
  | succ n ih =>
    intro t hn ht
    obtain ⟨a, ps⟩ := t
    rcases isType_cases ht with rfl | ⟨p, x, y, rfl, hx, hy, hp⟩
    · rw [tgt_leaf, Tree.text, type_leaf ht]
      decide
    · simp only [Tree.sz, Tree.szL] at hn
      have x1 := ih x (by omega) hx
      have y1 := ih y (by omega) hy
      rw [tgt_three]
      by_cases h42 : p.atom.data.toList = [42]
      · rw [if_pos h42, tgtP_text]
        simp only [List.mem_append, List.mem_cons, List.not_mem_nil, not_or, or_false]
        exact ⟨⟨by decide, by decide, by decide⟩, x1, by decide, y1, by decide⟩
      · rw [if_neg h42, tgtF_text, onw_text]
        simp only [List.mem_append, List.mem_cons, List.not_mem_nil, not_or, or_false]
        refine ⟨?_, x1, by decide, ⟨?_, y1, ?_⟩, ?_⟩ <;> (repeat' apply And.intro) <;> decide
theorem tgtOf_na {s : List UInt8} {t : Tree} (h : tgtOf s = some t) : NA 640 t.txt := by
  unfold tgtOf at h
  cases hp : ptype s with
  | none => rw [hp] at h; cases h
  | some u =>
    rw [hp] at h
    cases h
    refine ⟨by rw [Tree.txt, bts_size]; exact (typed_tgt hp).2.1, by rw [Tree.txt, bts_data]; exact tgt_na _ u (Nat.le_refl _) (ptype_facts hp).2.1⟩

/-- What a drawing hands back of which P holds. -/
def DP (P : ByteArray → Prop) (K : Nat) (w : World) (rb p : Nat) (e : Ending) (w' : World) : Prop :=
  ∃ s p', e = .returned (.string s) ∧ P s ∧ Rd w' rb p' ∧ p' ≤ p + K ∧ w.grownBy w' (some rb)
def sizeG : Nat → Nat
  | 0 => 1
  | d + 1 => 2 * sizeG d + 700
def picksG : Nat → Nat
  | 0 => 0
  | d + 1 => 2 * picksG d + 12
theorem sizeG_le (d : Nat) (h : d ≤ 3) : 1 ≤ sizeG d ∧ sizeG d ≤ 5000 ∧ picksG d ≤ 100 := by
  have : d = 0 ∨ d = 1 ∨ d = 2 ∨ d = 3 := by omega
  rcases this with rfl | rfl | rfl | rfl <;> decide
theorem na_two {n : Nat} {a b c s t : ByteArray} (ha : NA 20 a) (hb : NA 20 b) (hc : NA 20 c) (hs : NA n s) (ht : NA n t) : NA (2 * n + 700) (a ++ s ++ b ++ t ++ c) :=
  ((((ha.append hs).append hb).append ht).append hc).mono (by omega)
theorem na_one {n : Nat} {a b s : ByteArray} (ha : NA 20 a) (hb : NA 20 b) (hs : NA n s) : NA (2 * n + 700) (a ++ s ++ b) :=
  ((ha.append hs).append hb).mono (by omega)

set_option maxRecDepth 100000 in
set_option maxHeartbeats 3200000 in
theorem l92Target_any (d : Nat) : ∀ (w : World) (rb p : Nat), d ≤ 3 → Rd w rb p → p + picksG d ≤ 100000 →
    Calls Try.prog 48 #[.pointer (some ⟨rb, 0, none⟩), .int .i64 d] w (DP (NA (sizeG d)) (picksG d) w rb p) := by
  induction d with
  | zero =>
    intro w rb p hd h hp
    go_enter Try.func48, Try.ntmps48
    go_wp2
    go_ret
    exact ⟨_, p, rfl, ⟨by decide, by decide⟩, h, by omega, grownBy_refl _ _⟩
  | succ d ih =>
    intro w rb p hd h hp
    simp only [picksG, sizeG] at hp ⊢
    have hdb : (((d + 1 : Nat) : Int) == 0) = false := by simp; omega
    have hdc : (((d + 1 : Nat) : Int)) - 1 = (d : Int) := by omega
    obtain ⟨hle0, hle1, hle2⟩ := sizeG_le d (by omega)
    have IH := Lib.hid ih
    clear ih
    have HTY := Lib.hid (fun d W q (hd : d ≤ 5) hr hq => l91Type_any d W rb q hd hr hq)
    go_enter Try.func48, Try.ntmps48
    go_wp2_with fail
    refine (pick_any w rb p 4 h (by omega) (by omega) (by omega)).mono ?_
    rintro e w1 ⟨z, rfl, hz0, hz1, hrd, hg⟩
    by_cases hz : z = 0
    · subst hz
      go_wp2
      go_ret
      exact ⟨_, _, rfl, ⟨Nat.le_trans (by decide) (show 1 ≤ 2 * sizeG d + 700 by omega), by decide⟩, hrd, by omega, hg⟩
    · have hzb : (z == 0) = false := by simpa using hz
      have hlt := hrd.lt
      go_wp2_with fail
      refine (pick_any w1 rb _ 6 hrd (by omega) (by omega) (by omega)).mono ?_
      rintro e w2 ⟨y, rfl, hy0, hy1, hrd2, hg2'⟩
      have hg2 := grownBy_trans hg hg2'
      have hlt2 := hrd2.lt
      by_cases y0 : y = 0
      · subst y0
        have h1 := IH.out w2 rb _ (by omega) hrd2 (by omega)
        go_wp2_with fail
        refine h1.mono ?_
        rintro e w3 ⟨s1, p1, rfl, hs1, hrd3, hp1, hg3⟩
        have hsz1 := hs1.1
        go_wp2
        go_ret
        exact ⟨_, p1, rfl, na_one ⟨by decide, by decide⟩ ⟨by decide, by decide⟩ hs1, hrd3, by omega, grownBy_trans hg2 hg3⟩
      have yb0 : (y == 0) = false := by simpa using y0
      by_cases y1 : y = 1
      · subst y1
        have h1 := IH.out w2 rb _ (by omega) hrd2 (by omega)
        go_wp2_with fail
        refine h1.mono ?_
        rintro e w3 ⟨s1, p1, rfl, hs1, hrd3, hp1, hg3⟩
        have h2 := IH.out w3 rb _ (by omega) hrd3 (by omega)
        have hsz1 := hs1.1
        go_wp2_with fail
        refine h2.mono ?_
        rintro e w4 ⟨s2, p2, rfl, hs2, hrd4, hp2, hg4⟩
        have hsz2 := hs2.1
        go_wp2
        go_ret
        exact ⟨_, p2, rfl, na_two ⟨by decide, by decide⟩ ⟨by decide, by decide⟩ ⟨by decide, by decide⟩ hs1 hs2, hrd4, by omega, grownBy_trans hg2 (grownBy_trans hg3 hg4)⟩
      have yb1 : (y == 1) = false := by simpa using y1
      by_cases y2 : y = 2
      · subst y2
        go_wp2_with fail
        refine (of_any (NA 5) _ rb _ w2.heap.size 4 4 (hrd2.alloc _) (by omega) (by omega) (by omega) (by omega) ?_).mono ?_
        · refine textRow_new w2 _ _ ?_
          (repeat (first | exact trivial | (refine ⟨⟨_, rfl, ?_⟩, ?_⟩; · first | assumption | exact ⟨by decide, by decide⟩)))
        · rintro e w3 ⟨s2, rfl, hs2, hrd, hg3⟩
          go_wp2
          go_ret
          exact ⟨_, _, rfl, hs2.mono (by omega), hrd, by omega, grownBy_trans (grownBy_alloc hg2 _) hg3⟩
      have yb2 : (y == 2) = false := by simpa using y2
      by_cases y3 : y = 3
      · subst y3
        have hc := HTY.out 2 w2 _ (by omega) hrd2 (by simp [picksT]; omega)
        simp only [sizeT, picksT] at hc
        go_wp2_with fail
        refine hc.mono ?_
        rintro e w3 ⟨s0, p0, rfl, hs0, hrd3, hp0, hg3⟩
        have ho := sTargetOf_any s0 w3 (by omega)
        unfold StrR at ho
        cases hto : tgtOf s0.data.toList with
        | none =>
          rw [hto] at ho
          change Calls _ _ _ w3 fun e w' => e = .returned (.tuple #[.string ⟨#[]⟩, .bool false]) ∧ _ at ho
          have HO := Lib.hid ho
          clear ho hto
          go_wp2_with fail
          refine HO.out.mono ?_
          rintro e w5 ⟨rfl, hb5⟩
          have hrd5 := hrd3.grown (w' := w5) (fun k hk => hb5.block k hk)
          have hg5 := grownBy_trans hg2 (grownBy_trans hg3 (grownBy_below (row := some rb) hb5))
          clear hg hg2' hg2 hg3 hb5
          have h1 := IH.out w5 rb _ (by omega) hrd5 (by omega)
          go_wp2_with fail
          refine h1.mono ?_
          rintro e w6 ⟨s1, p1, rfl, hs1, hrd3, hp1, hg3⟩
          have h2 := IH.out w6 rb _ (by omega) hrd3 (by omega)
          have hsz1 := hs1.1
          go_wp2_with fail
          refine h2.mono ?_
          rintro e w7 ⟨s2, p2, rfl, hs2, hrd4, hp2, hg4⟩
          have hsz2 := hs2.1
          go_wp2
          go_ret
          exact ⟨_, p2, rfl, na_two ⟨by decide, by decide⟩ ⟨by decide, by decide⟩ ⟨by decide, by decide⟩ hs1 hs2, hrd4, by omega, grownBy_trans hg5 (grownBy_trans hg3 hg4)⟩
        | some u =>
          rw [hto] at ho
          change Calls _ _ _ w3 fun e w' => e = .returned (.tuple #[.string u.txt, .bool true]) ∧ _ at ho
          have hna := tgtOf_na hto
          have HO := Lib.hid ho
          clear ho hto
          go_wp2_with fail
          refine HO.out.mono ?_
          rintro e w5 ⟨rfl, hb5⟩
          have hrd5 := hrd3.grown (w' := w5) (fun k hk => hb5.block k hk)
          have hg5 := grownBy_trans hg2 (grownBy_trans hg3 (grownBy_below (row := some rb) hb5))
          go_wp2
          go_ret
          exact ⟨_, _, rfl, hna.mono (by omega), hrd5, by omega, hg5⟩
      have yb3 : (y == 3) = false := by simpa using y3
      have h1 := IH.out w2 rb _ (by omega) hrd2 (by omega)
      go_wp2_with fail
      refine h1.mono ?_
      rintro e w3 ⟨s1, p1, rfl, hs1, hrd3, hp1, hg3⟩
      have h2 := IH.out w3 rb _ (by omega) hrd3 (by omega)
      have hsz1 := hs1.1
      go_wp2_with fail
      refine h2.mono ?_
      rintro e w4 ⟨s2, p2, rfl, hs2, hrd4, hp2, hg4⟩
      have hsz2 := hs2.1
      go_wp2
      go_ret
      exact ⟨_, p2, rfl, na_two ⟨by decide, by decide⟩ ⟨by decide, by decide⟩ ⟨by decide, by decide⟩ hs1 hs2, hrd4, by omega, grownBy_trans hg2 (grownBy_trans hg3 hg4)⟩

/-- What a draw hands back of which P holds. -/
def DrawnP (P : ByteArray → Prop) (w : World) (e : Ending) (w' : World) : Prop := ∃ s, e = .returned (.string s) ∧ P s ∧ Below w.heap.size w w'

theorem drawTargetOf_any (w : World) (a : Option Addr) (len cap : Nat) (h : Code w a len cap) :
    Calls Try.prog 17 #[.slice a len cap] w (DrawnR 1000 w) := by
  have H := Lib.hid (l6Open_any w a len cap h)
  clear h
  go_enter Try.func17, Try.ntmps17
  go_wp2_with fail
  refine H.out.mono ?_
  rintro e w1 ⟨rb, rfl, hrb, hrd, hB1⟩
  go_wp2_with fail
  refine (l91Typed_any w1 rb 0 hrd (by omega)).mono ?_
  rintro e w2 ⟨s, p', rfl, hs, hrd, hp', hg⟩
  have hB2 : Below w.heap.size w w2 := hB1.trans_grown hg hrb hB1.size
  go_wp2
  go_ret
  exact ⟨s, rfl, hs, hB2⟩

theorem drawTargetNext_any (w : World) (a : Option Addr) (len cap : Nat) (h : Code w a len cap) :
    Calls Try.prog 25 #[.slice a len cap] w (DrawnR 1000 w) := by
  have H := Lib.hid (l6Open_any w a len cap h)
  clear h
  go_enter Try.func25, Try.ntmps25
  go_wp2_with fail
  refine H.out.mono ?_
  rintro e w1 ⟨rb, rfl, hrb, hrd, hB1⟩
  go_wp2_with fail
  refine (l91Typed_any w1 rb 0 hrd (by omega)).mono ?_
  rintro e w2 ⟨s, p', rfl, hs, hrd, hp', hg⟩
  have hB2 : Below w.heap.size w w2 := hB1.trans_grown hg hrb hB1.size
  go_wp2
  go_ret
  exact ⟨s, rfl, hs, hB2⟩

set_option maxRecDepth 100000 in
set_option maxHeartbeats 3200000 in
theorem drawTargetBack_any (w : World) (a : Option Addr) (len cap : Nat) (h : Code w a len cap) :
    Calls Try.prog 23 #[.slice a len cap] w (DrawnR 5000 w) := by
  have H := Lib.hid (l6Open_any w a len cap h)
  clear h
  go_enter Try.func23, Try.ntmps23
  go_wp2_with fail
  refine H.out.mono ?_
  rintro e w1 ⟨rb, rfl, hrb, hrd, hB1⟩
  have hc := l91Type_any 3 w1 rb 0 (by omega) hrd (by simp [picksT])
  simp only [sizeT, picksT] at hc
  go_wp2_with fail
  refine hc.mono ?_
  rintro e w3 ⟨s0, p0, rfl, hs0, hrd3, hp0, hg3⟩
  have ho := sTargetOf_any s0 w3 (by omega)
  unfold StrR at ho
  cases hto : tgtOf s0.data.toList with
  | none =>
    rw [hto] at ho
    change Calls _ _ _ w3 fun e w' => e = .returned (.tuple #[.string ⟨#[]⟩, .bool false]) ∧ _ at ho
    have HO := Lib.hid ho
    clear ho hto
    go_wp2_with fail
    refine HO.out.mono ?_
    rintro e w5 ⟨rfl, hb5⟩
    have hrd5 := hrd3.grown (w' := w5) (fun k hk => hb5.block k hk)
    have hg5 := grownBy_trans hg3 (grownBy_below (row := some rb) hb5)
    have h1 := l92Target_any 3 w5 rb _ (by omega) hrd5 (by simp [picksG]; omega)
    simp only [sizeG, picksG] at h1
    go_wp2_with fail
    refine h1.mono ?_
    rintro e w6 ⟨s1, p1, rfl, hs1, hrd6, hp1, hg6⟩
    have hB2 : Below w.heap.size w w6 := hB1.trans_grown (grownBy_trans hg5 hg6) hrb hB1.size
    go_wp2
    go_ret
    exact ⟨s1, rfl, Nat.le_trans hs1.1 (by omega), hB2⟩
  | some u =>
    rw [hto] at ho
    change Calls _ _ _ w3 fun e w' => e = .returned (.tuple #[.string u.txt, .bool true]) ∧ _ at ho
    have hna := (tgtOf_na hto).1
    have HO := Lib.hid ho
    clear ho hto
    go_wp2_with fail
    refine HO.out.mono ?_
    rintro e w5 ⟨rfl, hb5⟩
    have hrd5 := hrd3.grown (w' := w5) (fun k hk => hb5.block k hk)
    have hg5 := grownBy_trans hg3 (grownBy_below (row := some rb) hb5)
    go_wp2_with fail
    refine (pick_any w5 rb _ 4 hrd5 (by omega) (by omega) (by omega)).mono ?_
    rintro e w6 ⟨z, rfl, hz0, hz1, hrd6, hg6⟩
    have hg06 := grownBy_trans hg5 hg6
    by_cases hz : 0 < z
    · have hB2 : Below w.heap.size w w6 := hB1.trans_grown hg06 hrb hB1.size
      go_wp2
      go_ret
      exact ⟨u.txt, rfl, Nat.le_trans hna (by omega), hB2⟩
    · have h1 := l92Target_any 3 w6 rb _ (by omega) hrd6 (by simp [picksG]; omega)
      simp only [sizeG, picksG] at h1
      go_wp2_with fail
      refine h1.mono ?_
      rintro e w7 ⟨s1, p1, rfl, hs1, hrd7, hp1, hg7⟩
      have hB2 : Below w.heap.size w w7 := hB1.trans_grown (grownBy_trans hg06 hg7) hrb hB1.size
      go_wp2
      go_ret
      exact ⟨s1, rfl, Nat.le_trans hs1.1 (by omega), hB2⟩

set_option maxRecDepth 100000 in
set_option maxHeartbeats 3200000 in
theorem drawTargetValid_any (w : World) (a : Option Addr) (len cap : Nat) (h : Code w a len cap) :
    Calls Try.prog 19 #[.slice a len cap] w (DrawnR 5000 w) := by
  have H := Lib.hid (l6Open_any w a len cap h)
  clear h
  go_enter Try.func19, Try.ntmps19
  go_wp2_with fail
  refine H.out.mono ?_
  rintro e w1 ⟨rb, rfl, hrb, hrd, hB1⟩
  go_wp2_with fail
  refine (pick_any w1 rb _ 8 hrd (by omega) (by omega) (by omega)).mono ?_
  rintro e w2 ⟨z, rfl, hz0, hz1, hrd2, hg2⟩
  have hlt2 := hrd2.lt
  by_cases hz : z = 0
  · subst hz
    go_wp2_with fail
    refine (of_any (fun s => s.size ≤ 20) _ rb _ w2.heap.size 8 8 (hrd2.alloc _) (by omega) (by omega) (by omega) (by omega) ?_).mono ?_
    · refine textRow_new w2 _ _ ?_
      (repeat (first | exact trivial | (refine ⟨⟨_, rfl, ?_⟩, ?_⟩; · first | assumption | decide | (simp only [ByteArray.size]; decide))))
    · rintro e w3 ⟨s2, rfl, hs2, hrd, hg3⟩
      have hB2 : Below w.heap.size w w3 := hB1.trans_grown (grownBy_trans (grownBy_alloc hg2 _) hg3) hrb hB1.size
      go_wp2
      go_ret
      exact ⟨s2, rfl, by omega, hB2⟩
  · have hzb : (z == 0) = false := by simpa using hz
    have h1 := l92Target_any 3 w2 rb _ (by omega) hrd2 (by simp [picksG])
    simp only [sizeG, picksG] at h1
    go_wp2_with fail
    refine h1.mono ?_
    rintro e w6 ⟨s1, p1, rfl, hs1, hrd6, hp1, hg6⟩
    have hB2 : Below w.heap.size w w6 := hB1.trans_grown (grownBy_trans hg2 hg6) hrb hB1.size
    go_wp2
    go_ret
    exact ⟨s1, rfl, Nat.le_trans hs1.1 (by omega), hB2⟩

/-- What is drawn: a type and what is put for v. -/
def PutS (s : ByteArray) : Prop := NA 3000 s ∨ s = ⟨#[40, 99, 32, 97, 48, 32, 118, 41]⟩
def PutB (s : ByteArray) : Prop := NA 3000 s ∨ s = ⟨#[97, 48]⟩ ∨ s = ⟨#[97, 49, 50]⟩ ∨ s = ⟨#[97, 48, 49]⟩
set_option maxRecDepth 100000 in
set_option maxHeartbeats 3200000 in
theorem drawTargetPut_any (w : World) (a : Option Addr) (len cap : Nat) (h : Code w a len cap) :
    Calls Try.prog 27 #[.slice a len cap] w fun e w' => ∃ s t, e = .returned (.tuple #[.string s, .string t]) ∧ PutS s ∧ PutB t ∧ Below w.heap.size w w' := by
  have H := Lib.hid (l6Open_any w a len cap h)
  clear h
  go_enter Try.func27, Try.ntmps27
  go_wp2_with fail
  refine H.out.mono ?_
  rintro e w1 ⟨rb, rfl, hrb, hrd, hB1⟩
  have h1 := l92Target_any 2 w1 rb _ (by omega) hrd (by simp [picksG])
  simp only [sizeG, picksG] at h1
  go_wp2_with fail
  refine h1.mono ?_
  rintro e w2 ⟨s1, p1, rfl, hs1, hrd2, hp1, hg2⟩
  have hs1' : PutS s1 := .inl (hs1.mono (by omega))
  have hlt2 := hrd2.lt
  go_wp2_with fail
  refine (of_any PutS _ rb _ w2.heap.size 8 8 (hrd2.alloc _) (by omega) (by omega) (by omega) (by omega) ?_).mono ?_
  · refine textRow_new w2 _ _ ?_
    (repeat (first | exact trivial | (refine ⟨⟨_, rfl, ?_⟩, ?_⟩; · first | assumption | exact .inl ⟨by decide, by decide⟩ | exact .inr rfl)))
  rintro e w3 ⟨s, rfl, hs, hrd3, hg3⟩
  have hg13 := grownBy_trans (grownBy_alloc hg2 _) hg3
  have h2 := l92Target_any 2 w3 rb _ (by omega) hrd3 (by simp [picksG]; omega)
  simp only [sizeG, picksG] at h2
  go_wp2_with fail
  refine h2.mono ?_
  rintro e w4 ⟨s2, p2, rfl, hs2, hrd4, hp2, hg4⟩
  have hs2' : PutB s2 := .inl (hs2.mono (by omega))
  have hlt4 := hrd4.lt
  go_wp2_with fail
  refine (of_any PutB _ rb _ w4.heap.size 8 8 (hrd4.alloc _) (by omega) (by omega) (by omega) (by omega) ?_).mono ?_
  · refine textRow_new w4 _ _ ?_
    (repeat (first | exact trivial | (refine ⟨⟨_, rfl, ?_⟩, ?_⟩; · first | assumption | exact .inl ⟨by decide, by decide⟩ | exact .inr (.inl rfl) | exact .inr (.inr (.inl rfl)) | exact .inr (.inr (.inr rfl)))))
  rintro e w5 ⟨t, rfl, ht, hrd5, hg5⟩
  have hB2 : Below w.heap.size w w5 := hB1.trans_grown (grownBy_trans hg13 (grownBy_trans (grownBy_alloc hg4 _) hg5)) hrb hB1.size
  go_wp2
  exact bodyPost_ret (v := .tuple #[.string s, .string t]) (by simp [results, Try.results27, go_sem]) rfl ⟨s, t, rfl, hs, ht, hB2⟩
end Go.Proofs.Ytcobcmgmleblkaa
