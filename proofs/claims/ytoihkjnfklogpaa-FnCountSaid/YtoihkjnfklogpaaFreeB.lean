/- What the library's functions on rows of texts hand back; what an expression binds. -/
import Derived.Test.YtoihkjnfklogpaaFreeA
import Derived.Test.YtoihkjnfklogpaaNorm
import Derived.Test.YtoihkjnfklogpaaPlainI
import Derived.Lib.AppendZeros
namespace Go.Proofs.Ytoihkjnfklogpaa
open Go.RowKit

set_option maxRecDepth 100000 in
set_option maxHeartbeats 800000 in
theorem index_any (l : List ByteArray) (s : ByteArray) (o : Option Addr) (n c : Nat) (w : World) (h : Strs w o n l) (hn : n ≤ 1000000000) :
    Calls Try.prog 97 #[.slice o n c, .string s] w fun e w' => (∃ z : Int, e = .returned (.int .i64 z) ∧ decide (0 ≤ z) = hasS l s) ∧ w = w' := by
  have H := Lib.hid h
  have hl := Lib.hid h.1
  clear h
  go_enter Try.func97, Try.ntmps97
  go_wp2
  go_loop [8] (fun i => ∃ k : Nat, k ≤ n ∧ i = .int .i64 k ∧ Hid (hasS (l.take k) s = false)) (fun i => n - (intOf i).toNat)
  case atStart => exact ⟨0, Nat.zero_le _, rfl, rfl⟩
  case round =>
    obtain ⟨k, hk, rfl, HN⟩ := hrel
    by_cases hlt : k < n
    · obtain ⟨b, off, x, rfl, hx, hc⟩ := H.out.at hlt
      have HX := Lib.hid hx
      clear hx
      by_cases hs : x.toList = s.toList
      · have hb : (s.toList == x.toList) = true := by simpa using hs.symm
        have HS : Hid (hasS l s = true) := by
          show _ = _
          rw [hasS_iff]
          have : x = s := by
            have h2 : (x.toList == s.toList) = true := by simpa using hs
            simpa [toList_inj] using h2
          rw [← this]; exact List.mem_of_getElem? HX.out
        clear hs
        go_wp2
        go_ret
        exact ⟨⟨(k : Int), rfl, by rw [HS.out]; simp⟩, rfl⟩
      · have hb : (s.toList == x.toList) = false := by simpa using fun e => hs e.symm
        have HS : Hid (hasS (l.take (k + 1)) s = false) := by
          show _ = _
          have hlk : k < l.length := by rw [← hl.out]; exact hlt
          have hxk : l[k] = x := by have := HX.out; rw [List.getElem?_eq_getElem hlk] at this; exact Option.some.inj this
          rw [List.take_succ_eq_append_getElem hlk, hxk]
          have := HN.out
          unfold hasS at this ⊢
          rw [List.any_append, this]
          simpa using hs
        clear hs
        go_wp2
        go_round
        case rel => exact ⟨k + 1, by omega, by go_num, HS⟩
        case measure => simp [intOf]; omega
    · have HS : Hid (hasS l s = false) := by
        show _ = _
        have := HN.out
        rwa [List.take_of_length_le (by rw [← hl.out]; omega)] at this
      go_wp2
      go_ret
      exact ⟨⟨-1, rfl, by rw [HS.out]; rfl⟩, rfl⟩

set_option maxRecDepth 100000 in
set_option maxHeartbeats 400000 in
theorem contains_any (l : List ByteArray) (s : ByteArray) (o : Option Addr) (n c : Nat) (w : World) (h : Strs w o n l) (hn : n ≤ 1000000000) :
    Calls Try.prog 71 #[.slice o n c, .string s] w fun e w' => e = .returned (.bool (hasS l s)) ∧ w = w' := by
  have HC := Lib.hid (index_any l s o n c w h hn)
  clear h
  go_enter Try.func71, Try.ntmps71
  go_wp2_with fail
  refine HC.out.mono ?_
  rintro e w1 ⟨⟨z, rfl, hz⟩, rfl⟩
  have HZ := Lib.hid hz
  clear hz
  go_wp2
  go_ret
  exact ⟨ret_bool HZ.out, rfl⟩

set_option maxRecDepth 100000 in
set_option maxHeartbeats 800000 in
theorem grow_any (n : Nat) (w : World) (hn : n ≤ 1000000000) :
    Calls Try.prog 91 #[.slice none 0 0, .int .i64 n] w fun e w' => ∃ v, e = .returned v ∧ SRow w' w.heap.size v [] ∧ Below w.heap.size w w' := by
  obtain ⟨i0, hi, hz0, hz1, hz2⟩ := info_parts infoStr
  by_cases h0 : n = 0
  · subst h0
    go_enter Try.func91, Try.ntmps91
    go_wp2
    go_ret
    exact ⟨.slice none 0 0, rfl, SRow.nil _ _, Below.refl _ _⟩
  · have hpos : 0 < n := Nat.pos_of_ne_zero h0
    have hrun := fun ty => Lib.run_append_nil_zeros (P := Try.prog) w 23 3 ty 9 i0 _ .i64 .i64 Try.underlying23 (by kernel_rfl) hi hz0 n hpos (by rw [hz1]; decide) (by omega) (by rw [hz2]; omega)
    have HRUN := Lib.hid hrun
    have hge := grownCap_ge w n 0 9
    have hmx := grownCap_le_maxLen w n 0 9 (by simp only [maxLen]; omega)
    have HROW : Hid (SRow (w.drew.alloc (.cells (Builtin.zeroCells (Value.cells (.string ⟨#[]⟩)) n ++ Builtin.zeroCells (Value.cells (.string ⟨#[]⟩)) (grownCap w n 0 9 - n)) 9)) w.heap.size (.slice (some ⟨w.heap.size, 0, none⟩) 0 (grownCap w n 0 9)) []) := by
      refine ⟨rfl, .inr ⟨w.heap.size, grownCap w n 0 9, _, rfl, Nat.le_refl _, heap_alloc_new w.drew _, Nat.zero_le _, hmx, ?_, rfl⟩⟩
      rw [Array.size_append, size_zeroCells, size_zeroCells]
      show n * 1 + _ * 1 = _
      omega
    have HB : Hid (Below w.heap.size w (w.drew.alloc (.cells (Builtin.zeroCells (Value.cells (.string ⟨#[]⟩)) n ++ Builtin.zeroCells (Value.cells (.string ⟨#[]⟩)) (grownCap w n 0 9 - n)) 9))) := (Below.refl _ _).drew.alloc (Nat.le_refl _) _
    clear hrun hz0 hz1 hz2 hi h0
    generalize grownCap w n 0 9 = G at *
    go_enter Try.func91, Try.ntmps91
    go_wp2_with (at_builtin; refine Lib.wpList_append_run _ rfl (.tmp 20) (.tmp 21) _ _ rfl _ _ rfl rfl _ _ (HRUN.out _) ?_)
    go_ret
    exact ⟨_, rfl, HROW.out, HB.out⟩

set_option maxRecDepth 100000 in
set_option maxHeartbeats 1600000 in
theorem concat_any (l1 l2 : List ByteArray) (o1 o2 : Option Addr) (n1 c1 n2 c2 bs : Nat) (w : World) (h1 : Strs w o1 n1 l1) (h2 : Strs w o2 n2 l2) (hn : n1 + n2 ≤ 1000000)
    (x0 : w.cell? ⟨bs, 0, none⟩ = some (.slice o1 n1 c1)) (x1 : w.cell? ⟨bs, 1, none⟩ = some (.slice o2 n2 c2)) :
    Calls Try.prog 65 #[.slice (some ⟨bs, 0, none⟩) 2 2] w fun e w' => ∃ v, e = .returned v ∧ SRow w' w.heap.size v (l1 ++ l2) ∧ Below w.heap.size w w' := by
  have H1 : Hid (∀ W, Below w.heap.size w W → Strs W o1 n1 l1) := fun W h => h1.keep h
  have H2 : Hid (∀ W, Below w.heap.size w W → Strs W o2 n2 l2) := fun W h => h2.keep h
  have HC : Hid (∀ W, Below w.heap.size w W → W.cell? ⟨bs, 0, none⟩ = some (.slice o1 n1 c1) ∧ W.cell? ⟨bs, 1, none⟩ = some (.slice o2 n2 c2)) := fun W h => ⟨(h.cell (lt_of_cell x0)).trans x0, (h.cell (lt_of_cell x1)).trans x1⟩
  have HL1 := Lib.hid h1.1
  have HL2 := Lib.hid h2.1
  have HG := Lib.hid (grow_any (n1 + n2) w (by omega))
  clear h1 h2
  go_enter Try.func65, Try.ntmps65
  go_wp2
  go_loopw [3, 11] (fun sv iv wr => (iv = .int .i64 0 ∧ sv = .int .i64 0 ∨ iv = .int .i64 1 ∧ sv = .int .i64 n1 ∨ iv = .int .i64 2 ∧ sv = .int .i64 ((n1 + n2 : Nat) : Int)) ∧ w = wr) (fun _ iv _ => 2 - (intOf iv).toNat)
  case atStart => exact ⟨.inl ⟨rfl, rfl⟩, (by first | rfl | trivial)⟩
  case round =>
    obtain ⟨h, rfl⟩ := hrel
    rcases h with ⟨rfl, rfl⟩ | ⟨rfl, rfl⟩ | ⟨rfl, rfl⟩
    · go_wp2
      go_roundw
      case rel => exact ⟨.inr (.inl ⟨rfl, by go_num⟩), (by first | rfl | trivial)⟩
      case measure => simp [intOf]
    · go_wp2
      go_roundw
      case rel => exact ⟨.inr (.inr ⟨rfl, by go_num⟩), (by first | rfl | trivial)⟩
      case measure => simp [intOf]
    · go_wp2_with fail
      refine HG.out.mono ?_
      rintro e w1 ⟨v, rfl, hrow, hb1⟩
      obtain ⟨vo, vc, rfl, -⟩ := hrow.forms
      have HROW := Lib.hid hrow
      clear hrow
      go_wp2
      go_loopw [6, 27] (fun lu iv wr => ∃ lv, lv = lu ∧ (iv = .int .i64 0 ∧ Hid (SRow wr w.heap.size lv []) ∨ iv = .int .i64 1 ∧ Hid (SRow wr w.heap.size lv l1) ∨ iv = .int .i64 2 ∧ Hid (SRow wr w.heap.size lv (l1 ++ l2))) ∧ Below w.heap.size w wr) (fun _ iv _ => 2 - (intOf iv).toNat)
      case atStart => exact ⟨_, rfl, .inl ⟨rfl, HROW⟩, hb1⟩
      case round =>
        obtain ⟨lv, rfl, h, hbr⟩ := hrel
        obtain ⟨y0, y1⟩ := HC.out _ hbr
        have hsz := hbr.size
        rcases h with ⟨rfl, HR⟩ | ⟨rfl, HR⟩ | ⟨rfl, HR⟩
        · obtain ⟨lo, lc, rfl, -⟩ := HR.out.forms
          go_wp2_with (at_builtin; refine wpList_append_strs rfl (.tmp 31) (.tmp 32) rfl w.heap.size _ rfl [] _ _ _ rfl l1 HR.out (H1.out _ hbr) (by have := HL1.out; simp; omega) hsz ?_; intro o' c' w2 hrow2 hg2)
          have HR2 := Lib.hid hrow2
          have hb2 := hbr.grown hg2 hsz (fun k hk => (HR.out.lt k hk).1)
          clear hrow2 hg2
          go_wp2
          go_roundw
          case rel => exact ⟨_, rfl, .inr (.inl ⟨rfl, by simpa using HR2⟩), hb2⟩
          case measure => simp [intOf]
        · obtain ⟨lo, lc, rfl, -⟩ := HR.out.forms
          go_wp2_with (at_builtin; refine wpList_append_strs rfl (.tmp 31) (.tmp 32) rfl w.heap.size _ rfl l1 _ _ _ rfl l2 HR.out (H2.out _ hbr) (by have := HL1.out; have := HL2.out; omega) hsz ?_; intro o' c' w2 hrow2 hg2)
          have HR2 := Lib.hid hrow2
          have hb2 := hbr.grown hg2 hsz (fun k hk => (HR.out.lt k hk).1)
          clear hrow2 hg2
          go_wp2
          go_roundw
          case rel => exact ⟨_, rfl, .inr (.inr ⟨rfl, HR2⟩), hb2⟩
          case measure => simp [intOf]
        · go_wp2
          go_ret
          exact ⟨_, rfl, HR.out, hbr⟩

/-- What a call that makes a row of texts hands back. -/
def RowR (l : List ByteArray) (w : World) (e : Ending) (w' : World) : Prop := ∃ v, e = .returned v ∧ SRow w' w.heap.size v l ∧ Below w.heap.size w w'

theorem bindsAt_let {t : Tree} (h : t.hd.data.toList = [108, 101, 116]) : t.bindsAt 3 = [(nth t.parts 1).atom] := by unfold Tree.bindsAt; rw [if_pos ⟨h, rfl⟩]
theorem bindsAt_fun {t : Tree} (i : Nat) (h : t.hd.data.toList = [102, 117, 110]) : t.bindsAt i = [(nth t.parts 1).atom, (nth t.parts 2).atom] := by
  unfold Tree.bindsAt; rw [if_neg (fun h' => by rw [h] at h'; simp at h'), if_pos h]
theorem bindsAt_rest {t : Tree} {i : Nat} (h1 : ¬ (t.hd.data.toList = [108, 101, 116] ∧ i = 3)) (h2 : t.hd.data.toList ≠ [102, 117, 110]) : t.bindsAt i = [] := by
  unfold Tree.bindsAt; rw [if_neg h1, if_neg h2]
theorem bindsAt_len (t : Tree) (i : Nat) : (t.bindsAt i).length ≤ 2 := by
  unfold Tree.bindsAt; split
  · simp
  · split <;> simp

set_option maxRecDepth 100000 in
set_option maxHeartbeats 1600000 in
theorem l2Binds_any (s : ByteArray) (p : Tree) (ps : List Tree) (i : Nat) (A : Nat → Prop) (v : Value) (w : World) (hr : Rep w A (.node s (p :: ps)) v) (hexp : (Tree.node s (p :: ps)).isExpr = true) (hi : i ≤ 1000000000) :
    Calls Try.prog 75 #[v, .int .i64 i] w (RowR ((Tree.node s (p :: ps)).bindsAt i) w) := by
  have HHS := expr_heads hexp
  simp only [Rep] at hr
  obtain ⟨o, l, c, rfl, hs, hcap⟩ := hr
  obtain rfl := hs.len
  obtain ⟨b, off, rfl, hA, hc⟩ := hs.uncons
  have B0 := boxed0 w (.string s) (.slice (some ⟨b, off, none⟩) (ps.length + 1) c) 40
  obtain ⟨x0, y0, hB0, hl0⟩ := boxed B0
  simp only [List.length_cons] at hcap
  have HRC : Hid (∀ W, Below w.heap.size w W → RepC W A (p :: ps) b off) := fun W h => RepC.keep (Keeps.below h) hA _ _ hc
  obtain ⟨o0, n0, c0, ca0, cb0, r0⟩ := (HRC.out _ hB0).nth 0 (k := off) rfl rfl
  have hhd : (Tree.node s (p :: ps)).hd = p.atom := rfl
  have hget : ∀ i, i < ps.length + 1 → ∃ q, (p :: ps)[i]? = some q := fun i hi => ⟨(p :: ps)[i]'(by simpa using hi), by simp⟩
  clear hs hc
  by_cases h7 : p.atom.data.toList = [108, 101, 116]
  · have hl4 : 4 ≤ ps.length + 1 := by
      rcases HHS with ⟨-, h, -⟩ | ⟨h, -⟩ | ⟨h, -⟩ | ⟨h, -⟩
      · omega
      · rw [h7] at h; simp at h
      · rw [h7] at h; simp at h
      · exact absurd h7 h
    have e7 : (p.atom.toList == [108, 101, 116]) = true := by rw [Lib.toList_data, h7]; rfl
    have e8 : (p.atom.toList == [102, 117, 110]) = false := by rw [Lib.toList_data, h7]; rfl
    by_cases hi3 : i = 3
    · subst hi3
      obtain ⟨q1, hq1⟩ := hget 1 (by omega)
      obtain ⟨o1, n1, c1, ca1, cb1, r1⟩ := (HRC.out _ hB0).nth 1 (p := q1) (k := off + 2) hq1 rfl
      have HT : Hid ((Tree.node s (p :: ps)).bindsAt 3 = [q1.atom]) := by show _ = _; rw [bindsAt_let (by rw [hhd]; exact h7)]; show [(nth (p :: ps) 1).atom] = _; rw [nth_of hq1]
      have HROW : Hid (SRow ((w.alloc (.cells #[.string s, .slice (some ⟨b, off, none⟩) (ps.length + 1) c] 40)).alloc (.cells #[.string q1.atom] 9)) w.heap.size (.slice (some ⟨w.heap.size + 1, 0, none⟩) 1 1) [q1.atom]) := by
        have := SRow.lit (w.alloc (.cells #[.string s, .slice (some ⟨b, off, none⟩) (ps.length + 1) c] 40)) (base := w.heap.size) (by simp) [q1.atom] (by simp)
        rw [World.size_alloc] at this
        exact this
      have HB := Lib.hid (hB0.alloc hB0.size (.cells #[.string q1.atom] 9))
      clear h7 HHS hexp hget hq1 r1
      go_enter Try.func75, Try.ntmps75
      go_wp2
      go_ret
      exact ⟨_, rfl, by rw [HT.out]; exact HROW.out, HB.out⟩
    · have hib : ((i : Int) == 3) = false := by simp only [beq_eq_false_iff_ne, ne_eq]; omega
      have HT : Hid ((Tree.node s (p :: ps)).bindsAt i = []) := bindsAt_rest (fun h => hi3 h.2) (by rw [hhd, h7]; decide)
      have HROW : Hid (SRow ((w.alloc (.cells #[.string s, .slice (some ⟨b, off, none⟩) (ps.length + 1) c] 40)).alloc (.cells #[] 9)) w.heap.size (.slice (some ⟨w.heap.size + 1, 0, none⟩) 0 0) []) := by
        have := SRow.empty (w.alloc (.cells #[.string s, .slice (some ⟨b, off, none⟩) (ps.length + 1) c] 40)) (base := w.heap.size) (by simp)
        rw [World.size_alloc] at this
        exact this
      have HB := Lib.hid (hB0.alloc hB0.size (.cells #[] 9))
      clear h7 HHS hexp hget hi3
      go_enter Try.func75, Try.ntmps75
      go_wp2
      go_ret
      exact ⟨_, rfl, by rw [HT.out]; exact HROW.out, HB.out⟩
  · have e7 : (p.atom.toList == [108, 101, 116]) = false := by rw [Lib.toList_data]; simpa using h7
    by_cases h8 : p.atom.data.toList = [102, 117, 110]
    · have hl6 : 6 ≤ ps.length + 1 := by
        rcases HHS with ⟨h, -⟩ | ⟨-, h, -⟩ | ⟨h, -⟩ | ⟨-, h, -⟩
        · exact absurd h h7
        · omega
        · rw [h8] at h; simp at h
        · exact absurd h8 h
      have e8 : (p.atom.toList == [102, 117, 110]) = true := by rw [Lib.toList_data, h8]; rfl
      obtain ⟨q1, hq1⟩ := hget 1 (by omega)
      obtain ⟨q2, hq2⟩ := hget 2 (by omega)
      obtain ⟨o1, n1, c1, ca1, cb1, r1⟩ := (HRC.out _ hB0).nth 1 (p := q1) (k := off + 2) hq1 rfl
      obtain ⟨o2, n2, c2, ca2, cb2, r2⟩ := (HRC.out _ hB0).nth 2 (p := q2) (k := off + 4) hq2 rfl
      have HT : Hid ((Tree.node s (p :: ps)).bindsAt i = [q1.atom, q2.atom]) := by show _ = _; rw [bindsAt_fun i (by rw [hhd]; exact h8)]; show [(nth (p :: ps) 1).atom, (nth (p :: ps) 2).atom] = _; rw [nth_of hq1, nth_of hq2]
      have HROW : Hid (SRow ((w.alloc (.cells #[.string s, .slice (some ⟨b, off, none⟩) (ps.length + 1) c] 40)).drew.alloc (.cells #[.string q1.atom, .string q2.atom] 9)) w.heap.size (.slice (some ⟨w.heap.size + 1, 0, none⟩) 2 2) [q1.atom, q2.atom]) := by
        have := SRow.lit (w.alloc (.cells #[.string s, .slice (some ⟨b, off, none⟩) (ps.length + 1) c] 40)).drew (base := w.heap.size) (by show _ ≤ (w.alloc _).heap.size; simp) [q1.atom, q2.atom] (by simp)
        have h2 : (w.alloc (.cells #[.string s, .slice (some ⟨b, off, none⟩) (ps.length + 1) c] 40)).drew.heap.size = w.heap.size + 1 := by show (w.alloc _).heap.size = _; simp
        rw [h2] at this
        exact this
      have HB : Hid (Below w.heap.size w ((w.alloc (.cells #[.string s, .slice (some ⟨b, off, none⟩) (ps.length + 1) c] 40)).drew.alloc (.cells #[.string q1.atom, .string q2.atom] 9))) := hB0.drew.alloc (by show _ ≤ (w.alloc _).heap.size; simp) _
      clear h7 h8 HHS hexp hget hq1 hq2 r1 r2
      go_enter Try.func75, Try.ntmps75
      go_wp2_with fail
      go_region
      all_goals
        go_wp2
        go_ret
        first
          | exact ⟨_, rfl, by rw [HT.out]; exact HROW.out, HB.out⟩
    · have e8 : (p.atom.toList == [102, 117, 110]) = false := by rw [Lib.toList_data]; simpa using h8
      have HT : Hid ((Tree.node s (p :: ps)).bindsAt i = []) := bindsAt_rest (fun h => h7 h.1) h8
      have HROW : Hid (SRow ((w.alloc (.cells #[.string s, .slice (some ⟨b, off, none⟩) (ps.length + 1) c] 40)).alloc (.cells #[] 9)) w.heap.size (.slice (some ⟨w.heap.size + 1, 0, none⟩) 0 0) []) := by
        have := SRow.empty (w.alloc (.cells #[.string s, .slice (some ⟨b, off, none⟩) (ps.length + 1) c] 40)) (base := w.heap.size) (by simp)
        rw [World.size_alloc] at this
        exact this
      have HB := Lib.hid (hB0.alloc hB0.size (.cells #[] 9))
      clear h7 h8 HHS hexp hget
      go_enter Try.func75, Try.ntmps75
      go_wp2
      go_ret
      exact ⟨_, rfl, by rw [HT.out]; exact HROW.out, HB.out⟩

set_option maxRecDepth 100000 in
set_option maxHeartbeats 1600000 in
theorem bound_any (s : ByteArray) (p : Tree) (ps : List Tree) (i : Nat) (A : Nat → Prop) (v : Value) (w : World) (hr : Rep w A (.node s (p :: ps)) v) (hexp : (Tree.node s (p :: ps)).isExpr = true)
    (hk : kidAt p.atom.data.toList (ps.length + 1) ≤ i) (hi : i < ps.length + 1) (hln : ps.length + 1 ≤ 1000000000) :
    Calls Try.prog 66 #[v, .int .i64 i] w (RowR ((Tree.node s (p :: ps)).bindsAt i) w) := by
  have HHS := expr_heads hexp
  have HHD := Lib.hid (fun v w hr => head_any (.node s (p :: ps)) A v w hr hln)
  have HHD' : Hid (∀ v w, Rep w A (.node s (p :: ps)) v → Calls Try.prog 32 #[v] w fun e w' => e = .returned (.string p.atom) ∧ Below w.heap.size w w') := HHD.out
  clear HHD
  have hr' := hr
  simp only [Rep] at hr
  obtain ⟨o, l, c, rfl, hs, hcap⟩ := hr
  obtain rfl := hs.len
  obtain ⟨b, off, rfl, hA, hc⟩ := hs.uncons
  have B0 := boxed0 w (.string s) (.slice (some ⟨b, off, none⟩) (ps.length + 1) c) 46
  obtain ⟨x0, y0, hB0, hl0⟩ := boxed B0
  simp only [List.length_cons] at hcap
  have HRC : Hid (∀ W, Below w.heap.size w W → RepC W A (p :: ps) b off) := fun W h => RepC.keep (Keeps.below h) hA _ _ hc
  have HR : Hid (∀ W, Below w.heap.size w W → Rep W A (.node s (p :: ps)) (.agg #[.string s, .slice (some ⟨b, off, none⟩) (ps.length + 1) c])) := fun W h => Rep.keep (Keeps.below h) _ _ hr'
  have hhd : (Tree.node s (p :: ps)).hd = p.atom := rfl
  have hget : ∀ i, i < ps.length + 1 → ∃ q, (p :: ps)[i]? = some q := fun i hi => ⟨(p :: ps)[i]'(by simpa using hi), by simp⟩
  clear hs hc hr'
  by_cases h7 : p.atom.data.toList = [108, 101, 116]
  · have hl4 : 4 ≤ ps.length + 1 := by
      rcases HHS with ⟨-, h, -⟩ | ⟨h, -⟩ | ⟨h, -⟩ | ⟨h, -⟩
      · omega
      · rw [h7] at h; simp at h
      · rw [h7] at h; simp at h
      · exact absurd h7 h
    have e7 : (p.atom.toList == [108, 101, 116]) = true := by rw [Lib.toList_data, h7]; rfl
    have e8 : (p.atom.toList == [102, 117, 110]) = false := by rw [Lib.toList_data, h7]; rfl
    by_cases hi3 : i = 3
    · subst hi3
      obtain ⟨q1, hq1⟩ := hget 1 (by omega)
      have HT : Hid ((Tree.node s (p :: ps)).bindsAt 3 = [q1.atom]) := by show _ = _; rw [bindsAt_let (by rw [hhd]; exact h7)]; show [(nth (p :: ps) 1).atom] = _; rw [nth_of hq1]
      have HQ1 := Lib.hid hq1
      clear h7 HHS hexp hget hq1
      go_enter Try.func66, Try.ntmps66
      go_wp2_with fail
      refine (HHD'.out _ _ (HR.out _ hB0)).mono ?_
      rintro e w1 ⟨rfl, hb1⟩
      have B1 := Below.next B0 hb1; obtain ⟨x1, y1, hB1, hl1⟩ := boxed B1; clear hb1
      obtain ⟨o1, n1, c1, ca1, cb1, r1⟩ := (HRC.out _ hB1).nth 1 (p := q1) (k := off + 2) HQ1.out rfl
      have HROW := Lib.hid ((SRow.lit w1 (base := w.heap.size) hB1.size [q1.atom] (by simp)))
      have HB := Lib.hid (hB1.alloc hB1.size (.cells #[.string q1.atom] 9))
      clear r1
      go_wp2
      go_ret
      exact ⟨_, rfl, by rw [HT.out]; exact HROW.out, HB.out⟩
    · have hib : ((i : Int) == 3) = false := by simp only [beq_eq_false_iff_ne, ne_eq]; omega
      have HT : Hid ((Tree.node s (p :: ps)).bindsAt i = []) := bindsAt_rest (fun h => hi3 h.2) (by rw [hhd, h7]; decide)
      clear h7 HHS hexp hget hi3
      go_enter Try.func66, Try.ntmps66
      go_wp2_with fail
      refine (HHD'.out _ _ (HR.out _ hB0)).mono ?_
      rintro e w1 ⟨rfl, hb1⟩
      have B1 := Below.next B0 hb1; obtain ⟨x1, y1, hB1, hl1⟩ := boxed B1; clear hb1
      go_wp2_with fail
      refine (HHD'.out _ _ (HR.out _ hB1)).mono ?_
      rintro e w2 ⟨rfl, hb2⟩
      have B2 := Below.next B1 hb2; obtain ⟨x2, y2, hB2, hl2⟩ := boxed B2; clear hb2
      go_wp2
      go_ret
      exact ⟨.slice none 0 0, rfl, by rw [HT.out]; exact SRow.nil _ _, hB2⟩
  · have e7 : (p.atom.toList == [108, 101, 116]) = false := by rw [Lib.toList_data]; simpa using h7
    by_cases h8 : p.atom.data.toList = [102, 117, 110]
    · obtain ⟨hl6, hi5⟩ : 6 ≤ ps.length + 1 ∧ i = 5 := by
        rcases HHS with ⟨h, -⟩ | ⟨-, h, h5⟩ | ⟨h, -⟩ | ⟨-, h, -⟩
        · exact absurd h h7
        · omega
        · rw [h8] at h; simp at h
        · exact absurd h8 h
      subst hi5
      have e8 : (p.atom.toList == [102, 117, 110]) = true := by rw [Lib.toList_data, h8]; rfl
      obtain ⟨q1, hq1⟩ := hget 1 (by omega)
      obtain ⟨q2, hq2⟩ := hget 2 (by omega)
      have HT : Hid ((Tree.node s (p :: ps)).bindsAt 5 = [q1.atom, q2.atom]) := by show _ = _; rw [bindsAt_fun 5 (by rw [hhd]; exact h8)]; show [(nth (p :: ps) 1).atom, (nth (p :: ps) 2).atom] = _; rw [nth_of hq1, nth_of hq2]
      have HQ1 := Lib.hid hq1
      have HQ2 := Lib.hid hq2
      clear h7 h8 HHS hexp hget hq1 hq2
      go_enter Try.func66, Try.ntmps66
      go_wp2_with fail
      refine (HHD'.out _ _ (HR.out _ hB0)).mono ?_
      rintro e w1 ⟨rfl, hb1⟩
      have B1 := Below.next B0 hb1; obtain ⟨x1, y1, hB1, hl1⟩ := boxed B1; clear hb1
      go_wp2_with fail
      refine (HHD'.out _ _ (HR.out _ hB1)).mono ?_
      rintro e w2 ⟨rfl, hb2⟩
      have B2 := Below.next B1 hb2; obtain ⟨x2, y2, hB2, hl2⟩ := boxed B2; clear hb2
      obtain ⟨o1, n1, c1, ca1, cb1, r1⟩ := (HRC.out _ hB2).nth 1 (p := q1) (k := off + 2) HQ1.out rfl
      obtain ⟨o2, n2, c2, ca2, cb2, r2⟩ := (HRC.out _ hB2).nth 2 (p := q2) (k := off + 4) HQ2.out rfl
      have HROW := Lib.hid ((SRow.lit w2.drew (base := w.heap.size) hB2.size [q1.atom, q2.atom] (by simp)))
      have HB := Lib.hid (hB2.drew.alloc hB2.size (.cells #[.string q1.atom, .string q2.atom] 9))
      clear r1 r2
      go_wp2_with fail
      go_region
      all_goals
        go_wp2
        go_ret
        exact ⟨_, rfl, by rw [HT.out]; exact HROW.out, HB.out⟩
    · have e8 : (p.atom.toList == [102, 117, 110]) = false := by rw [Lib.toList_data]; simpa using h8
      have HT : Hid ((Tree.node s (p :: ps)).bindsAt i = []) := bindsAt_rest (fun h => h7 h.1) h8
      clear h7 h8 HHS hexp hget
      go_enter Try.func66, Try.ntmps66
      go_wp2_with fail
      refine (HHD'.out _ _ (HR.out _ hB0)).mono ?_
      rintro e w1 ⟨rfl, hb1⟩
      have B1 := Below.next B0 hb1; obtain ⟨x1, y1, hB1, hl1⟩ := boxed B1; clear hb1
      go_wp2_with fail
      refine (HHD'.out _ _ (HR.out _ hB1)).mono ?_
      rintro e w2 ⟨rfl, hb2⟩
      have B2 := Below.next B1 hb2; obtain ⟨x2, y2, hB2, hl2⟩ := boxed B2; clear hb2
      go_wp2
      go_ret
      exact ⟨.slice none 0 0, rfl, by rw [HT.out]; exact SRow.nil _ _, hB2⟩
end Go.Proofs.Ytoihkjnfklogpaa
