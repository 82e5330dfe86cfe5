/- Instructions of a text: of the program and of the reference. -/
import Derived.Test.YtpamfjbgnpmmoaaGreatDoorInstrN
namespace Go.Proofs.YtpamfjbgnpmmoaaGreatDoor
open Go.RowKit

/-- Is an instruction a last one? -/
def Tree.lastB (t : Tree) : Bool := (t.hd.toList == [106, 117, 109, 112]) || (t.hd.toList == [104, 97, 108, 116])
/-- Is a text an instruction, or a last one? -/
def instrOf (s : List UInt8) : Bool := match parse s with | some t => t.instrI | none => false
def lastOf (s : List UInt8) : Bool := match parse s with | some t => t.instrI && t.lastB | none => false

theorem parse_facts {s : List UInt8} {t : Tree} (h : parse s = some t) : t.good = true ∧ t.sz ≤ 24000 ∧ t.text.length ≤ 12000 ∧ t.parts.length ≤ 1000000000 := by
  have h1 := parse_sz h
  obtain ⟨e, hg, -, hl⟩ := (parse_iff _ _).1 h
  refine ⟨hg, h1, by rw [← e]; exact hl, ?_⟩
  obtain ⟨a, ps⟩ := t
  have := Tree.length_le_szL ps
  simp only [Tree.sz, Tree.parts] at *
  omega

set_option maxRecDepth 100000 in
set_option maxHeartbeats 800000 in
theorem isLast_any (t : Tree) (A : Nat → Prop) (v : Value) (w : World) (hr : Rep w A t v) (hln : t.parts.length ≤ 1000000000) :
    Calls Tryz.prog 21 #[v] w fun e w' => e = .returned (.bool t.lastB) ∧ Below w.heap.size w w' := by
  have HC := Lib.hid (fun v w hr => head_any t A v w hr hln)
  have hr' := hr
  obtain ⟨s, ps⟩ := t
  simp only [Rep] at hr
  obtain ⟨o, l, c, rfl, hs, hcap⟩ := hr
  have B0 := boxed0 w (.string s) (.slice o l c) 44
  have HR := Lib.hid hr'
  obtain ⟨x0, y0, hB0, hl0⟩ := boxed B0
  have HRW : Hid (∀ W, Below w.heap.size w W → Rep W A (.node s ps) (.agg #[.string s, .slice o l c])) := fun W h => Rep.keep (Keeps.below h) _ _ hr'
  have hl : (Tree.node s ps).lastB = (((Tree.node s ps).hd.toList == [106, 117, 109, 112]) || ((Tree.node s ps).hd.toList == [104, 97, 108, 116])) := rfl
  have HL := Lib.hid hl
  clear hr' hs hl
  generalize (Tree.node s ps).lastB = b at *
  generalize (Tree.node s ps).hd = h at *
  cases e1 : (h.toList == [106, 117, 109, 112]) with
  | true =>
    have HF : Hid (b = true) := by show _ = _; rw [HL.out, e1]; rfl
    go_enter Tryz.func21, Tryz.ntmps21
    go_wp2_with fail
    refine (HC.out _ _ (HRW.out _ hB0)).mono ?_
    rintro e w1 ⟨rfl, hb1⟩
    have B1 := Below.next B0 hb1; obtain ⟨x1, y1, hB1, hl1⟩ := boxed B1; clear hb1
    go_wp2
    go_ret
    exact ⟨ret_bool HF.out.symm, hB1⟩
  | false =>
    have HF : Hid (b = (h.toList == [104, 97, 108, 116])) := by show _ = _; rw [HL.out, e1]; rfl
    go_enter Tryz.func21, Tryz.ntmps21
    go_wp2_with fail
    refine (HC.out _ _ (HRW.out _ hB0)).mono ?_
    rintro e w1 ⟨rfl, hb1⟩
    have B1 := Below.next B0 hb1; obtain ⟨x1, y1, hB1, hl1⟩ := boxed B1; clear hb1
    go_wp2_with fail
    refine (HC.out _ _ (HRW.out _ hB1)).mono ?_
    rintro e w2 ⟨rfl, hb2⟩
    have B2 := Below.next B1 hb2; obtain ⟨x2, y2, hB2, hl2⟩ := boxed B2; clear hb2
    go_wp2
    go_ret
    exact ⟨ret_bool HF.out.symm, hB2⟩


set_option maxRecDepth 100000 in
set_option maxHeartbeats 800000 in
theorem sInstrValid_any (s : ByteArray) (w : World) (hs : s.size ≤ 1000000000) :
    Calls Tryz.prog 17 #[.string s] w fun e w' => e = .returned (.bool (instrOf s.data.toList)) ∧ Below w.heap.size w w' := by
  have HC := Lib.hid (fun W => l1Parse_any s W hs)
  go_enter Tryz.func17, Tryz.ntmps17
  go_wp2_with fail
  refine (HC.out _).mono ?_
  rintro e w1 ⟨a, o, l, c, ok, t, rfl, hb1, hr, hok, ht⟩
  cases hp : parse s.data.toList with
  | none =>
    rw [hp] at hok
    have hok' : ok = false := hok
    subst hok'
    have HP : Hid (instrOf s.data.toList = false) := by show _ = _; unfold instrOf; rw [hp]
    clear hok ht hp
    go_wp2
    go_ret
    exact ⟨ret_bool HP.out.symm, hb1.alloc hb1.size _⟩
  | some t' =>
    rw [hp] at hok
    have hok' : ok = true := hok
    subst hok'
    obtain rfl := ht _ hp
    obtain ⟨hg, hsz, htx, -⟩ := parse_facts hp
    have HP : Hid (instrOf s.data.toList = t.instrS) := by show _ = _; unfold instrOf; rw [hp, ← instr_same]
    clear hok ht hp
    have HM := Lib.hid (l6tInstr_any t _ _ (w1.alloc (.cells #[.string a, .slice o l c] 57)) (Rep.keep (Keeps.alloc _ _ _) _ _ hr) hg hsz htx)
    have hB1 : Below w.heap.size w (w1.alloc (.cells #[.string a, .slice o l c] 57)) := hb1.alloc hb1.size _
    clear hg hsz htx
    go_wp2_with fail
    refine HM.out.mono ?_
    rintro e w2 ⟨rfl, hb2⟩
    go_wp2
    go_ret
    exact ⟨ret_bool HP.out.symm, hB1.trans (hb2.mono hB1.size)⟩

set_option maxRecDepth 100000 in
set_option maxHeartbeats 800000 in
theorem instrLast_any (s : ByteArray) (w : World) (hs : s.size ≤ 1000000000) :
    Calls Tryz.prog 7 #[.string s] w fun e w' => e = .returned (.bool (lastOf s.data.toList)) ∧ Below w.heap.size w w' := by
  have HC := Lib.hid (fun W => read_any s W hs)
  go_enter Tryz.func7, Tryz.ntmps7
  go_wp2_with fail
  refine (HC.out _).mono ?_
  rintro e w1 ⟨a, o, l, c, ok, t, rfl, hb1, hr, hok, ht⟩
  cases hp : parse s.data.toList with
  | none =>
    rw [hp] at hok
    have hok' : ok = false := hok
    subst hok'
    have HP : Hid (lastOf s.data.toList = false) := by show _ = _; unfold lastOf; rw [hp]
    clear hok ht hp
    go_wp2
    go_ret
    exact ⟨ret_bool HP.out.symm, hb1.alloc hb1.size _⟩
  | some t' =>
    rw [hp] at hok
    have hok' : ok = true := hok
    subst hok'
    obtain rfl := ht _ hp
    obtain ⟨hg, hsz, htx, hln⟩ := parse_facts hp
    have HP : Hid (lastOf s.data.toList = (t.instrI && t.lastB)) := by show _ = _; unfold lastOf; rw [hp]
    clear hok ht hp
    have hr1 := Rep.keep (Keeps.alloc _ w1 (.cells #[.string a, .slice o l c] 44)) _ _ hr
    have HM := Lib.hid (isInstr_any t _ _ (w1.alloc (.cells #[.string a, .slice o l c] 44)) hr1 hg hsz htx)
    have hB1 : Below w.heap.size w (w1.alloc (.cells #[.string a, .slice o l c] 44)) := hb1.alloc hb1.size _
    obtain ⟨x0, y0⟩ := two_new w1 (.string a) (.slice o l c) 44
    have HLL : Hid (∀ W, Below (w1.alloc (.cells #[.string a, .slice o l c] 44)).heap.size (w1.alloc (.cells #[.string a, .slice o l c] 44)) W → Calls Tryz.prog 21 #[.agg #[.string a, .slice o l c]] W fun e w' => e = .returned (.bool t.lastB) ∧ Below W.heap.size W w') :=
      fun W h => isLast_any t _ _ W (Rep.keep (Keeps.below h) _ _ hr1) hln
    clear hg hsz htx hr hr1 hln
    cases hi : t.instrI with
    | false =>
      rw [hi] at HM HP
      clear hi
      go_wp2_with fail
      refine HM.out.mono ?_
      rintro e w2 ⟨rfl, hb2⟩
      go_wp2
      go_ret
      exact ⟨ret_bool HP.out.symm, hB1.trans (hb2.mono hB1.size)⟩
    | true =>
      rw [hi] at HM HP
      clear hi
      generalize t.lastB = bb at *
      go_wp2_with fail
      refine HM.out.mono ?_
      rintro e w2 ⟨rfl, hb2⟩
      have HL2 := Lib.hid (HLL.out _ hb2)
      have x2 := (hb2.cell (lt_of_cell x0)).trans x0
      have y2 := (hb2.cell (lt_of_cell y0)).trans y0
      go_wp2_with fail
      refine HL2.out.mono ?_
      rintro e w3 ⟨rfl, hb3⟩
      go_wp2
      go_ret
      exact ⟨ret_bool HP.out.symm, (hB1.trans (hb2.mono hB1.size)).trans (hb3.mono (Nat.le_trans hB1.size hb2.size))⟩

theorem instr_cons {t : Tree} (h : t.instrI = true) : ∃ a p ps, t = .node a (p :: ps) := by
  obtain ⟨a, ps⟩ := t
  cases ps with
  | nil => simp [Tree.instrI] at h
  | cons p ps => exact ⟨a, p, ps, rfl⟩

set_option maxRecDepth 100000 in
set_option maxHeartbeats 800000 in
theorem sInstrLast_any (s : ByteArray) (w : World) (hs : s.size ≤ 1000000000) :
    Calls Tryz.prog 18 #[.string s] w fun e w' => e = .returned (.bool (lastOf s.data.toList)) ∧ Below w.heap.size w w' := by
  have HC := Lib.hid (fun W => l1Parse_any s W hs)
  go_enter Tryz.func18, Tryz.ntmps18
  go_wp2_with fail
  refine (HC.out _).mono ?_
  rintro e w1 ⟨a, o, l, c, ok, t, rfl, hb1, hr, hok, ht⟩
  cases hp : parse s.data.toList with
  | none =>
    rw [hp] at hok
    have hok' : ok = false := hok
    subst hok'
    have HP : Hid (lastOf s.data.toList = false) := by show _ = _; unfold lastOf; rw [hp]
    clear hok ht hp
    go_wp2
    go_ret
    exact ⟨ret_bool HP.out.symm, hb1.alloc hb1.size _⟩
  | some t' =>
    rw [hp] at hok
    have hok' : ok = true := hok
    subst hok'
    obtain rfl := ht _ hp
    obtain ⟨hg, hsz, htx, hln⟩ := parse_facts hp
    have HP : Hid (lastOf s.data.toList = (t.instrS && t.lastB)) := by show _ = _; unfold lastOf; rw [hp, ← instr_same]
    clear hok ht hp
    have hr1 := Rep.keep (Keeps.alloc _ w1 (.cells #[.string a, .slice o l c] 57)) _ _ hr
    have HM := Lib.hid (l6tInstr_any t _ _ (w1.alloc (.cells #[.string a, .slice o l c] 57)) hr1 hg hsz htx)
    have hB1 : Below w.heap.size w (w1.alloc (.cells #[.string a, .slice o l c] 57)) := hb1.alloc hb1.size _
    obtain ⟨x0, y0⟩ := two_new w1 (.string a) (.slice o l c) 57
    cases hi : t.instrS with
    | false =>
      rw [hi] at HM HP
      clear hi hg hsz htx hr hr1 hln
      go_wp2_with fail
      refine HM.out.mono ?_
      rintro e w2 ⟨rfl, hb2⟩
      go_wp2
      go_ret
      exact ⟨ret_bool HP.out.symm, hB1.trans (hb2.mono hB1.size)⟩
    | true =>
      rw [hi] at HM HP
      obtain ⟨a', p, ps, rfl⟩ := instr_cons ((instr_same t).trans hi)
      simp only [Rep] at hr1
      obtain ⟨o1, n1, c1, hv, hs1, hcap⟩ := hr1
      simp only [Value.agg.injEq, Array.mk.injEq, List.cons.injEq, Value.string.injEq, Value.slice.injEq, and_true] at hv
      obtain ⟨rfl, rfl, rfl, rfl⟩ := hv
      obtain rfl := hs1.len
      obtain ⟨b, off, rfl, hA, hc⟩ := hs1.uncons
      have HCC : Hid (∀ W, Below (w1.alloc (.cells #[.string a, .slice (some ⟨b, off, none⟩) (p :: ps).length c] 57)).heap.size (w1.alloc (.cells #[.string a, .slice (some ⟨b, off, none⟩) (p :: ps).length c] 57)) W → RepC W _ (p :: ps) b off) := fun W h => RepC.keep (Keeps.below h) hA _ _ hc
      have hl : (Tree.node a (p :: ps)).lastB = ((p.atom.toList == [106, 117, 109, 112]) || (p.atom.toList == [104, 97, 108, 116])) := rfl
      rw [hl] at HP
      clear hi hg hsz htx hr hln hs1 hc hl
      have hlp : 0 < (p :: ps).length := by simp
      have hlpI : (0 : Int) < ((p :: ps).length : Int) := by omega
      generalize (p :: ps).length = n at *
      go_wp2_with fail
      refine HM.out.mono ?_
      rintro e w2 ⟨rfl, hb2⟩
      have x2 := (hb2.cell (lt_of_cell x0)).trans x0
      have y2 := (hb2.cell (lt_of_cell y0)).trans y0
      obtain ⟨op, np, cp, hpx, hpy, -⟩ := (HCC.out _ hb2).nth 0 (k := off) rfl rfl
      generalize p.atom = pa at *
      cases e1 : (pa.toList == [106, 117, 109, 112]) with
      | true =>
        rw [e1] at HP
        go_wp2
        go_ret
        exact ⟨ret_bool (by rw [HP.out]; rfl), hB1.trans (hb2.mono hB1.size)⟩
      | false =>
        rw [e1] at HP
        go_wp2
        go_ret
        exact ⟨ret_bool (by rw [HP.out]; simp), hB1.trans (hb2.mono hB1.size)⟩
end Go.Proofs.YtpamfjbgnpmmoaaGreatDoor
