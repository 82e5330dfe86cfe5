/- Slices of texts: rows that a call makes itself, rows that are only read, and the contracts of the laws' small functions on them. -/
import Derived.Test.YtoihkjnfklogpaaProg
import Derived.Test.YtoihkjnfklogpaaQ1
import Derived.WalkKit
import Derived.WalkSpells
import Derived.WalkLawsBesides
import Derived.OwnWalk
import Derived.Laws.OwnMore
import Derived.Lib.Strings
import Derived.Lib.Hide
import Derived.IntWalk
import Derived.Deep.QuietTactic
import Derived.BigQuiet
import Derived.Deep.RegionHeld3
import Derived.Deep.RegionWith
import Derived.Laws.IdiomStrings
import Derived.Outline
namespace Go.Proofs.Ytoihkjnfklogpaa
open Go.RowKit

theorem toList_inj (a b : ByteArray) : (a.toList == b.toList) = decide (a = b) := by
  rw [Bool.eq_iff_iff, Lib.toList_data, Lib.toList_data]
  simp only [beq_iff_eq, decide_eq_true_eq]
  constructor
  · intro h
    cases a; cases b
    congr 1
    exact Array.toList_inj.1 h
  · rintro rfl; rfl

theorem _root_.Go.RowKit.Below.drewN {B : Nat} {a w : World} (h : Below B a w) (n : Nat) : Below B a (w.drewN n) := ⟨h.os, h.tape, h.output, h.size, h.block⟩

/-- A list has a text. -/
def hasS (l : List ByteArray) (s : ByteArray) : Bool := l.any fun a => a.toList == s.toList

theorem hasS_iff {l : List ByteArray} {s : ByteArray} : hasS l s = true ↔ s ∈ l := by
  unfold hasS
  simp only [List.any_eq_true, toList_inj, decide_eq_true_eq]
  constructor
  · rintro ⟨x, hx, rfl⟩; exact hx
  · intro h; exact ⟨s, h, rfl⟩

theorem hasS_false {l : List ByteArray} {s : ByteArray} : hasS l s = false ↔ s ∉ l := by
  rw [← hasS_iff]; simp

/-- A slice of texts that can be read. -/
def Strs (w : World) (o : Option Addr) (n : Nat) (l : List ByteArray) : Prop :=
  n = l.length ∧ (l = [] ∨ ∃ b off, o = some ⟨b, off, none⟩ ∧ ∀ i s, l[i]? = some s → w.cell? ⟨b, off + i, none⟩ = some (.string s))

theorem Strs.at {w : World} {o : Option Addr} {n : Nat} {l : List ByteArray} (h : Strs w o n l) {k : Nat} (hk : k < n) : ∃ b off s, o = some ⟨b, off, none⟩ ∧ l[k]? = some s ∧ w.cell? ⟨b, off + k, none⟩ = some (.string s) := by
  obtain ⟨hn, h | ⟨b, off, ho, hc⟩⟩ := h
  · subst h; simp at hn; omega
  · have : k < l.length := by omega
    exact ⟨b, off, l[k], ho, by simp [this], hc k _ (by simp [this])⟩

theorem Strs.keep {w w' : World} {o : Option Addr} {n : Nat} {l : List ByteArray} (h : Strs w o n l) (hb : Below w.heap.size w w') : Strs w' o n l := by
  obtain ⟨hn, h | ⟨b, off, ho, hc⟩⟩ := h
  · exact ⟨hn, .inl h⟩
  · exact ⟨hn, .inr ⟨b, off, ho, fun i s hi => (hb.cell (lt_of_cell (hc i s hi))).trans (hc i s hi)⟩⟩

theorem Strs.drew {w : World} {o : Option Addr} {n : Nat} {l : List ByteArray} (h : Strs w o n l) : Strs w.drew o n l := h

theorem Strs.nil (w : World) (o : Option Addr) : Strs w o 0 [] := ⟨rfl, .inl rfl⟩

/-- A slice of texts in a row of the call's own, from block 'base' on. -/
def SRow (w : World) (base : Nat) (v : Value) (l : List ByteArray) : Prop := w.ownsRow base 9 1 v l.length (l.map Value.string)

theorem SRow.nil (w : World) (base : Nat) : SRow w base (.slice none 0 0) [] := World.ownsRow_nil _ _ _ _

theorem SRow.keep {w w' : World} {base : Nat} {v : Value} {l : List ByteArray} (h : SRow w base v l) (hk : ∀ b, v.ownBlock = some b → w'.heap[b]? = w.heap[b]?) : SRow w' base v l := by
  refine ⟨h.1, ?_⟩
  rcases h.2 with h | ⟨g, cap, cur, hv, hb, hg, r⟩
  · exact .inl h
  · exact .inr ⟨g, cap, cur, hv, hb, by rw [hk g (by rw [hv]; rfl)]; exact hg, r⟩

theorem SRow.lt {w : World} {base : Nat} {v : Value} {l : List ByteArray} (h : SRow w base v l) : ∀ k, v.ownBlock = some k → base ≤ k ∧ k < w.heap.size := World.ownsRow.lt h

theorem SRow.below {w w' : World} {base : Nat} {v : Value} {l : List ByteArray} (h : SRow w base v l) (hb : Below w.heap.size w w') : SRow w' base v l :=
  h.keep fun k hk => hb.block k (h.lt k hk).2

theorem SRow.kind {w : World} {base : Nat} {v : Value} {l : List ByteArray} (h : SRow w base v l) {g : Nat} (hg : v.ownBlock = some g) : ∃ cur, w.heap[g]? = some (.cells cur 9 (0, 0)) := by
  rcases h.2 with ⟨hv, _⟩ | ⟨g', cap, cur, hv, _, hgg, _⟩
  · rw [hv] at hg; simp [Value.ownBlock] at hg
  · rw [hv] at hg; simp [Value.ownBlock] at hg; subst hg; exact ⟨cur, hgg⟩

theorem SRow.alloc {w : World} {base : Nat} {v : Value} {l : List ByteArray} (h : SRow w base v l) (o : Obj) : SRow (w.alloc o) base v l := World.ownsRow.alloc h o

theorem SRow.drew {w : World} {base : Nat} {v : Value} {l : List ByteArray} (h : SRow w base v l) : SRow w.drew base v l := h

theorem SRow.setCell {w : World} {base : Nat} {v : Value} {l : List ByteArray} (h : SRow w base v l) {a : Addr} (ha : v.ownBlock ≠ some a.block) (u : Value) : SRow (w.setCell a u) base v l :=
  h.keep fun k hk => Below.heap_setCell _ _ _ _ fun e => ha (by rw [hk, e])

theorem SRow.mono {w : World} {base base' : Nat} {v : Value} {l : List ByteArray} (h : SRow w base v l) (hb : base' ≤ base) : SRow w base' v l := by
  refine ⟨h.1, ?_⟩
  rcases h.2 with h | ⟨g, cap, cur, hv, hg, r⟩
  · exact .inl h
  · exact .inr ⟨g, cap, cur, hv, Nat.le_trans hb hg, r⟩

/-- 'append' onto another row, or the call's own work, leaves it. -/
theorem SRow.grown {w w' : World} {base : Nat} {v : Value} {l : List ByteArray} {row : Option Nat} (h : SRow w base v l) (hg : w.grownBy w' row) (hne : v.ownBlock = none ∨ v.ownBlock ≠ row) : SRow w' base v l := World.ownsRow.kept h hg hne

theorem SRow.forms {w : World} {base : Nat} {v : Value} {l : List ByteArray} (h : SRow w base v l) : ∃ o c, v = .slice o l.length c ∧ Strs w o l.length l := by
  rcases h.2 with ⟨hv, hn⟩ | ⟨g, cap, cur, hv, _⟩
  · have hl : l = [] := List.eq_nil_of_length_eq_zero hn
    subst hl
    exact ⟨none, 0, hv, rfl, .inl rfl⟩
  · refine ⟨some ⟨g, 0, none⟩, cap, hv, rfl, .inr ⟨g, 0, rfl, fun i s hi => ?_⟩⟩
    have := World.ownsRow.cells h (g := g) (by rw [hv]; rfl) i (.string s) (by simp [hi])
    rw [Addr.add_lit] at this
    exact this

theorem SRow.empty (w : World) {base : Nat} (hb : base ≤ w.heap.size) : SRow (w.alloc (.cells #[] 9)) base (.slice (some ⟨w.heap.size, 0, none⟩) 0 0) [] :=
  World.ownsRow_lit w #[] 0 hb (by simp [maxLen]) rfl

theorem SRow.lit (w : World) {base : Nat} (hb : base ≤ w.heap.size) (l : List ByteArray) (hl : l.length ≤ 1000000000) : SRow (w.alloc (.cells (l.map Value.string).toArray 9)) base (.slice (some ⟨w.heap.size, 0, none⟩) l.length l.length) l := by
  have := World.ownsRow_lit (base := base) (e := 9) (size := 1) w (l.map Value.string).toArray l.length hb (by simp only [maxLen]; omega) (by simp)
  unfold SRow
  simpa using this

theorem infoStr : (Try.prog.info? 9).map (fun i => (i.zero, i.size, i.bytes)) = some (some (.string ⟨#[]⟩), 1, 16) := by kernel_rfl

/-- One text is appended to a row: the text in the box that the call has just laid. -/
theorem wpList_append_str {ops : Array Oper} {rest : List Oper} {o : Oper} {a : Act} {Q : Exit → Act → World → Prop} {W : World} (hgd : o.guard = none) (s x0 : Operand)
    (ho : o.op = .call { callee := .builtin .append, args := #[s, x0], argTypes := #[23, 23] })
    (base : Nat) (v : Value) (hs : a.eval s = v) (l : List ByteArray) (b c : Nat) (hx0 : a.eval x0 = .slice (some ⟨b, 0, none⟩) 1 c) (x : ByteArray) (hb : b = W.heap.size)
    (hrow : SRow W base v l) (hn : l.length ≤ 1000000000) (hbase : base ≤ W.heap.size)
    (h : ∀ g cap w', SRow w' base (.slice (some ⟨g, 0, none⟩) (l.length + 1) cap) (l ++ [x]) → (W.alloc (.cells #[.string x] 9)).grownBy w' v.ownBlock → (v.ownBlock = some g ∨ W.heap.size < g) → wpList Try.prog ops Q rest (a.put o.dst (.slice (some ⟨g, 0, none⟩) (l.length + 1) cap)) w') :
    wpList Try.prog ops Q (o :: rest) a (W.alloc (.cells #[.string x] 9)) := by
  subst hb
  obtain ⟨i0, hi, hz0, hz1, hz2⟩ := info_parts infoStr
  have hc : (W.alloc (.cells #[.string x] 9)).cell? ⟨W.heap.size, 0, none⟩ = some (.string x) := by simp only [World.cell?, heap_alloc_new]; rfl
  obtain ⟨g, cap, w', hr, k1, k2, k3⟩ := run_append_own2 (P := Try.prog) (W.alloc (.cells #[.string x] 9)) base 23 o.type 9 i0 _ 1 16 Try.underlying23 hi hz0 hz1 hz2 rfl (by decide) v l.length (l.map Value.string) (World.ownsRow.alloc hrow _) ⟨W.heap.size, 0, none⟩ 1 c [.string x] rfl
    (by intro j u hj
        match j, hj with
        | 0, hj => simp at hj; subst hj; rw [Addr.add_lit]; exact hc)
    (by intro u hu; simp at hu; subst hu; rfl) (by decide) (by simp only [maxLen]; omega) (by omega) (by simp; omega)
  refine wpList_plain hgd fun K hK => ?_
  unfold Oper.wp execOp
  simp only [ho, resolve, invoke, builtin, Sem.run_bind, Sem.run_pure, Result.andThen_ok, List.map_toArray, List.map_cons, List.map_nil, hs, hx0, hr]
  refine hK _ _ (h _ _ w' ?_ k2 ?_)
  · unfold SRow
    simpa using k1
  · rcases k3 with k3 | k3
    · exact .inl k3
    · right; simp at k3; omega

theorem l1Has_any (l : List ByteArray) (s : ByteArray) (o : Option Addr) (n c : Nat) (w : World) (h : Strs w o n l) (hn : n ≤ 1000000000) :
    Calls Try.prog 74 #[.slice o n c, .string s] w fun e w' => e = .returned (.bool (hasS l s)) ∧ w = w' := by
  have H := Lib.hid h
  have hl := Lib.hid h.1
  clear h
  go_enter Try.func74, Try.ntmps74
  go_wp2
  go_loop [5] (fun i => ∃ k : Nat, k ≤ n ∧ i = .int .i64 k ∧ Hid (hasS (l.take k) s = false)) (fun i => n - (intOf i).toNat)
  case atStart => exact ⟨0, Nat.zero_le _, rfl, rfl⟩
  case round =>
    obtain ⟨k, hk, rfl, HN⟩ := hrel
    by_cases hlt : k < n
    · obtain ⟨b, off, x, rfl, hx, hc⟩ := H.out.at hlt
      have HX := Lib.hid hx
      clear hx
      by_cases hs : x.toList = s.toList
      · have hb : (x.toList == s.toList) = true := by simpa using hs
        have HS : Hid (hasS l s = true) := by
          show _ = _
          rw [hasS_iff]
          have : x = s := by simpa [toList_inj] using hb
          rw [← this]; exact List.mem_of_getElem? HX.out
        clear hs
        go_wp2
        go_ret
        exact ⟨ret_bool HS.out.symm, rfl⟩
      · have hb : (x.toList == s.toList) = false := by simpa using hs
        have HS : Hid (hasS (l.take (k + 1)) s = false) := by
          show _ = _
          have hlk : k < l.length := by rw [← hl.out]; exact hlt
          have hxk : l[k] = x := by have := HX.out; rw [List.getElem?_eq_getElem hlk] at this; exact Option.some.inj this
          rw [List.take_succ_eq_append_getElem hlk, hxk]
          have := HN.out
          unfold hasS at this ⊢
          rw [List.any_append, this]
          simp [hb]
        clear hs
        go_wp2
        go_round
        case rel => exact ⟨k + 1, by omega, by go_num, HS⟩
        case measure => simp [intOf]; omega
    · have HS : Hid (hasS l s = false) := by
        show _ = _
        have := HN.out
        rwa [List.take_of_length_le (by rw [← hl.out]; omega)] at this
      go_wp2
      go_ret
      exact ⟨ret_bool HS.out.symm, rfl⟩

/-- A number's last digit. -/
def digitS (k : Nat) : ByteArray := ⟨#[UInt8.ofNat (48 + k % 10)]⟩
theorem digitS_size (k : Nat) : (digitS k).size = 1 := rfl
theorem digitS_eq (k : Nat) : digitS k = ⟨#[UInt8.ofNat (48 + k % 10)]⟩ := rfl

/-- A number's digits, ahead of a text. -/
def markD (k : Nat) (s : ByteArray) : ByteArray := if _h : k = 0 then s else markD (k / 10) (digitS k ++ s)
  termination_by k

theorem markD_zero (s : ByteArray) : markD 0 s = s := by rw [markD]; simp
theorem markD_pos {k : Nat} (s : ByteArray) (h : k ≠ 0) : markD k s = markD (k / 10) (digitS k ++ s) := by rw [markD, dif_neg h]

/-- The mark of a number. -/
def mark (k : Nat) : ByteArray := ⟨#[109]⟩ ++ markD k ⟨#[]⟩

set_option maxRecDepth 100000 in
set_option maxHeartbeats 400000 in
theorem markText_any (n : Nat) (w : World) (h1 : 1 ≤ n) (h2 : n ≤ 1000000000) :
    Calls Try.prog 34 #[.int .i64 n] w fun e w' => e = .returned (.string (mark n)) ∧ Below w.heap.size w w' := by
  have hn0 : decide (n = 0) = false := by simp; omega
  go_enter Try.func34, Try.ntmps34
  go_wp2
  go_loopw [0, 3] (fun kv sv wr => ∃ (k : Nat) (s : ByteArray), kv = .int .i64 k ∧ sv = .string s ∧ k ≤ n ∧ s.size + k ≤ 1000000000 ∧ Hid (markD k s = markD n ⟨#[]⟩) ∧ Below w.heap.size w wr) (fun kv _ _ => (intOf kv).toNat)
  case atStart => exact ⟨n, ⟨#[]⟩, rfl, rfl, Nat.le_refl _, by show 0 + n ≤ _; omega, rfl, Below.refl _ _⟩
  case round =>
    obtain ⟨k, s, rfl, rfl, hk, hs, HM, hB⟩ := hrel
    by_cases h0 : k = 0
    · subst h0
      have HS : Hid (s = markD n ⟨#[]⟩) := by show _ = _; rw [← HM.out, markD_zero]
      go_wp2
      go_ret
      exact ⟨by show Ending.returned (.string (⟨#[109]⟩ ++ s)) = _; unfold mark; rw [HS.out], hB⟩
    · have HS : Hid (markD (k / 10) (digitS k ++ s) = markD n ⟨#[]⟩) := by show _ = _; rw [← HM.out, markD_pos s h0]
      have hcv : ∀ W : World, (convert 29 9 (.slice (some ⟨W.heap.size, 0, none⟩) 1 1)).run Try.prog (W.alloc (.cells #[.int .u8 (48 + (k : Int) % 10)] 5)) = Result.ok (Value.string (digitS k)) (W.alloc (.cells #[.int .u8 (48 + (k : Int) % 10)] 5)) := by
        intro W
        rw [digitS_eq]
        refine run_convert_bytes_back (P := Try.prog) _ 29 9 5 ⟨W.heap.size, 0, none⟩ 1 [UInt8.ofNat (48 + k % 10)] Try.underlying29 Try.underlying5 Try.underlying9 ?_
        intro j hj
        have : j = 0 := by simpa using hj
        subst this
        rw [Addr.add_lit]
        simp only [World.cell?, heap_alloc_new]
        simp
        omega
      have hs1 := digitS_size k
      go_wp2
      go_roundw
      case rel => exact ⟨k / 10, _, by first | rfl | (congr 1; omega), rfl, by omega, by rw [ByteArray.size_append]; omega, HS, hB.alloc hB.size _⟩
      case measure => simp [intOf]; omega

def marks (q : Nat) : Nat → List ByteArray
  | 0 => []
  | n + 1 => marks q n ++ [mark (q + n)]

theorem marks_length (q n : Nat) : (marks q n).length = n := by induction n with
  | zero => rfl
  | succ n ih => simp [marks, ih]

theorem marks_at (q n k : Nat) (h : k < n) : (marks q n)[k]? = some (mark (q + k)) := by
  induction n with
  | zero => omega
  | succ n ih =>
    by_cases hk : k < n
    · rw [marks, List.getElem?_append_left (by rw [marks_length]; exact hk)]; exact ih hk
    · have : k = n := by omega
      subst this
      rw [marks, List.getElem?_append_right (by rw [marks_length]; omega), marks_length]; simp

theorem marks_step (q k : Nat) (l : List ByteArray) (h : k < l.length) : (marks q k ++ l.drop k).set k (mark (q + k)) = marks q (k + 1) ++ l.drop (k + 1) := by
  rw [List.set_append_right _ _ (by rw [marks_length]; omega), marks_length, Nat.sub_self, marks, List.append_assoc]
  congr 1
  rw [List.drop_eq_getElem_cons h]; rfl

theorem SRow.store {w : World} {base g n cap : Nat} {l : List ByteArray} (h : SRow w base (.slice (some ⟨g, 0, none⟩) n cap) l) (hn : n = l.length) (j : Nat) (s : ByteArray) :
    SRow (w.setCell ⟨g, j, none⟩ (.string s)) base (.slice (some ⟨g, 0, none⟩) n cap) (l.set j s) := by
  subst hn
  have := (World.ownsRow.stored h j (.string s)).1
  unfold SRow
  rw [List.length_set, List.map_set]
  exact this

theorem SRow.frozen {w : World} {base g n cap : Nat} {l : List ByteArray} (h : SRow w base (.slice (some ⟨g, 0, none⟩) n cap) l) (hn : n = l.length) (j : Nat) : w.frozen? ⟨g, j, none⟩ = false := by
  subst hn
  exact World.ownsRow.frozenAt h j

theorem SRow.read {w : World} {base n cap : Nat} {o : Option Addr} {l : List ByteArray} (h : SRow w base (.slice o n cap) l) : Strs w o n l := by
  obtain ⟨o', c', hv, hs⟩ := h.forms
  simp only [Value.slice.injEq] at hv
  obtain ⟨rfl, rfl, rfl⟩ := hv
  exact hs

/-- A row that is not empty: where it lies. -/
theorem SRow.where {w : World} {base : Nat} {v : Value} {l : List ByteArray} (h : SRow w base v l) (hl : 0 < l.length) : ∃ g cap, v = .slice (some ⟨g, 0, none⟩) l.length cap ∧ base ≤ g ∧ g < w.heap.size := by
  rcases h.2 with ⟨hv, hn⟩ | ⟨g, cap, cur, hv, hb, hg, _⟩
  · omega
  · exact ⟨g, cap, hv, hb, (Array.getElem?_eq_some_iff.1 hg).1⟩

set_option maxRecDepth 100000 in
set_option maxHeartbeats 400000 in
theorem markStringS_any (l : List ByteArray) (v : Value) (base q : Nat) (w : World) (h : SRow w base v l) (hq : 1 ≤ q) (hb : base ≤ w.heap.size) (hn : q + l.length ≤ 1000000000) :
    Calls Try.prog 12 #[v, .int .i64 q] w fun e w' => e = .returned (.int .i64 ((q + l.length : Nat) : Int)) ∧ SRow w' base v (marks q l.length) ∧ Below base w w' := by
  by_cases hl : l.length = 0
  · have : l = [] := List.eq_nil_of_length_eq_zero hl
    subst this
    obtain ⟨o, c, rfl, -⟩ := h.forms
    have H := Lib.hid h
    clear h hl
    go_enter Try.func12, Try.ntmps12
    go_wp2
    refine wp_loop_rounds 1 ?_
    rw [rounds_succ]
    go_wp2
    go_ret
    exact ⟨rfl, H.out, Below.refl _ _⟩
  obtain ⟨g, cap, rfl, hbg, hgs⟩ := h.where (by omega)
  generalize hL : l.length = n at *
  have hL' := Lib.hid hL
  clear hL
  go_enter Try.func12, Try.ntmps12
  go_wp2
  go_loopw [5, 1] (fun iv qv wr => ∃ k : Nat, k ≤ n ∧ iv = .int .i64 k ∧ qv = .int .i64 ((q + k : Nat) : Int) ∧ SRow wr base (.slice (some ⟨g, 0, none⟩) n cap) (marks q k ++ l.drop k) ∧ Below base w wr ∧ g < wr.heap.size) (fun iv _ _ => n - (intOf iv).toNat)
  case atStart => exact ⟨0, Nat.zero_le _, rfl, rfl, by simpa [marks] using h, Below.refl _ _, hgs⟩
  case round =>
    obtain ⟨k, hk, rfl, rfl, hrow, hB, hgw⟩ := hrel
    by_cases hlt : k < n
    · have hm := markText_any (q + k) wr (by omega) (by omega)
      have HM := Lib.hid hm
      clear hm
      have hlen : n = (marks q k ++ l.drop k).length := by rw [List.length_append, marks_length, List.length_drop, hL'.out]; omega
      have HL := Lib.hid hlen
      clear hlen
      have HR := Lib.hid hrow
      clear hrow h
      go_wp2_with fail
      refine HM.out.mono ?_
      rintro e w1 ⟨rfl, hb1⟩
      have hrow1 := HR.out.below hb1
      have hfz := hrow1.frozen HL.out k
      obtain ⟨s, hs⟩ : ∃ s, (marks q k ++ l.drop k)[k]? = some s := ⟨_, List.getElem?_eq_getElem (by rw [← HL.out]; exact hlt)⟩
      have hcell : w1.cell? ⟨g, k, none⟩ = some (.string s) := by
        obtain ⟨hn1, h0 | ⟨b, off, ho, hc⟩⟩ := hrow1.read
        · rw [h0] at hn1; simp at hn1; omega
        · simp only [Option.some.injEq, Addr.mk.injEq, and_true] at ho
          obtain ⟨rfl, rfl⟩ := ho
          simpa using hc k s hs
      have hst := hrow1.store HL.out k (mark (q + k))
      rw [marks_step q k l (by rw [hL'.out]; exact hlt)] at hst
      have HS := Lib.hid hst
      have hB1 : Below base w w1 := hB.trans (hb1.mono (by have := hB.size; omega))
      have hg1 : g < w1.heap.size := Nat.lt_of_lt_of_le hgw hb1.size
      clear hst hs HR hrow1 HM
      go_wp2
      go_roundw
      case rel => exact ⟨k + 1, by omega, by go_num, by go_num, HS.out, hB1.setCell hbg _, by simpa using hg1⟩
      case measure => simp [intOf]; omega
    · have hkn : k = n := by omega
      have HR : Hid (SRow wr base (.slice (some ⟨g, 0, none⟩) n cap) (marks q n)) := by
        show SRow _ _ _ _
        rw [hkn, List.drop_of_length_le (by rw [hL'.out]; exact Nat.le_refl _), List.append_nil] at hrow
        exact hrow
      clear hrow h
      go_wp2
      go_ret
      exact ⟨ret_int (by rw [hkn]), HR.out, hB⟩

set_option maxRecDepth 100000 in
set_option maxHeartbeats 800000 in
theorem eqStringS_any (l m : List ByteArray) (o p : Option Addr) (n k c d : Nat) (w : World) (h : Strs w o n l) (g : Strs w p k m) (hn : n ≤ 1000000000) (hk : k ≤ 1000000000) :
    Calls Try.prog 11 #[.slice o n c, .slice p k d] w fun e w' => e = .returned (.bool (decide (l = m))) ∧ Below w.heap.size w w' := by
  have H := Lib.hid h
  have G := Lib.hid g
  have hl := Lib.hid h.1
  have hm := Lib.hid g.1
  clear h g
  by_cases hnk : n = k
  · subst hnk
    go_enter Try.func11, Try.ntmps11
    go_wp2
    go_loopw [5] (fun i wr => ∃ k : Nat, k ≤ n ∧ i = .int .i64 k ∧ Hid (l.take k = m.take k) ∧ Below w.heap.size w wr) (fun i _ => n - (intOf i).toNat)
    case atStart => exact ⟨0, Nat.zero_le _, rfl, rfl, Below.refl _ _⟩
    case round =>
      obtain ⟨k, hk, rfl, HN, hB⟩ := hrel
      by_cases hlt : k < n
      · obtain ⟨b, off, x, rfl, hx, hc⟩ := (H.out.keep hB).at hlt
        obtain ⟨b2, off2, y, rfl, hy, hc2⟩ := (G.out.keep hB).at hlt
        have HX := Lib.hid hx
        have HY := Lib.hid hy
        have hi0 : (0 : Int) ≤ k := by omega
        have hi1 : (k : Int) < n := by omega
        clear hx hy
        by_cases hs : x.toList = y.toList
        · have hb : (x.toList == y.toList) = true := by simpa using hs
          have hb' : (x.toList != y.toList) = false := by simp [hs]
          have HS : Hid (l.take (k + 1) = m.take (k + 1)) := by
            show _ = _
            have hlk : k < l.length := by rw [← hl.out]; exact hlt
            have hmk : k < m.length := by rw [← hm.out]; exact hlt
            rw [List.take_succ_eq_append_getElem hlk, List.take_succ_eq_append_getElem hmk, HN.out]
            have e1 := HX.out
            have e2 := HY.out
            rw [List.getElem?_eq_getElem hlk, Option.some.injEq] at e1
            rw [List.getElem?_eq_getElem hmk, Option.some.injEq] at e2
            rw [e1, e2]
            have : x = y := by rw [toList_inj] at hb; simpa using hb
            rw [this]
          clear hs
          go_wp2
          go_quiet (fail)
          go_wp2
          go_roundw
          case rel => exact ⟨k + 1, by omega, by go_num, HS, by first | exact hB.drew | exact hB | exact hB.drewN _⟩
          case measure => simp [intOf]; omega
        · have hb : (x.toList == y.toList) = false := by simpa using hs
          have hb' : (x.toList != y.toList) = true := by simp [hs]
          have HS : Hid (decide (l = m) = false) := by
            show _ = _
            simp only [decide_eq_false_iff_not]
            rintro rfl
            have e1 := HX.out
            have e2 := HY.out
            rw [e1] at e2
            exact hs (by rw [Option.some.inj e2])
          clear hs
          go_wp2
          go_quiet (fail)
          go_wp2
          go_ret
          exact ⟨ret_bool HS.out.symm, by first | exact hB.drew | exact hB | exact hB.drewN _⟩
      · have HS : Hid (decide (l = m) = true) := by
          show _ = _
          have e := HN.out
          rw [List.take_of_length_le (by rw [← hl.out]; omega), List.take_of_length_le (by rw [← hm.out]; omega)] at e
          simpa using e
        go_wp2
        go_ret
        exact ⟨ret_bool HS.out.symm, hB⟩
  · have hne : ((n : Int) != (k : Int)) = true := by simp; omega
    have HS : Hid (decide (l = m) = false) := by
      show _ = _
      simp only [decide_eq_false_iff_not]
      rintro rfl
      exact hnk (hl.out.trans hm.out.symm)
    go_enter Try.func11, Try.ntmps11
    go_wp2
    go_ret
    exact ⟨ret_bool HS.out.symm, Below.refl _ _⟩

set_option maxRecDepth 100000 in
set_option maxHeartbeats 800000 in
theorem heldStringS_any (n q : Nat) (o : Option Addr) (c : Nat) (w : World) (h : Strs w o n (marks q n)) (hq : 1 ≤ q) (hn : q + n ≤ 1000000000) :
    Calls Try.prog 13 #[.slice o n c, .int .i64 q] w fun e w' => e = .returned (.int .i64 ((q + n : Nat) : Int)) ∧ Below w.heap.size w w' := by
  have H := Lib.hid h
  clear h
  go_enter Try.func13, Try.ntmps13
  go_wp2
  go_loopw [5, 1] (fun iv qv wr => ∃ k : Nat, k ≤ n ∧ iv = .int .i64 k ∧ qv = .int .i64 ((q + k : Nat) : Int) ∧ Below w.heap.size w wr) (fun iv _ _ => n - (intOf iv).toNat)
  case atStart => exact ⟨0, Nat.zero_le _, rfl, rfl, Below.refl _ _⟩
  case round =>
    obtain ⟨k, hk, rfl, rfl, hB⟩ := hrel
    by_cases hlt : k < n
    · have hm : ∀ W : World, Calls Try.prog 34 #[.int .i64 ((q : Int) + (k : Int))] W fun e w' => e = .returned (.string (mark (q + k))) ∧ Below W.heap.size W w' := fun W => by
        have := markText_any (q + k) W (by omega) (by omega)
        rwa [show ((q + k : Nat) : Int) = (q : Int) + (k : Int) from by omega] at this
      have HM := Lib.hid hm
      clear hm
      obtain ⟨b, off, x, rfl, hx, hc⟩ := (H.out.keep hB).at hlt
      rw [marks_at q n k hlt, Option.some.injEq] at hx
      subst hx
      have hi0 : (0 : Int) ≤ k := by omega
      have hi1 : (k : Int) < n := by omega
      have hS : ∀ w' : World, Below wr.heap.size wr w' → w'.cell? ⟨b, off + k, none⟩ = some (.string (mark (q + k))) ∧ Below wr.heap.size wr w' := fun w' h => ⟨(h.cell (lt_of_cell hc)).trans hc, h⟩
      have HS := Lib.hid hS
      clear hS
      go_wp2
      go_region_held3 (fun w' => w'.cell? ⟨b, off + k, none⟩ = some (.string (mark (q + k))) ∧ Below wr.heap.size wr w') (first | exact HS.out _ (by assumption) | exact HS.out _ (Below.refl _ _).drew)
        ((go_at_call 34; refine (callQ (w1 := wr) ?_ (HM.out _)).mono ?_; (first | assumption | exact (Below.refl _ _).drew); rintro e w' ⟨rfl, hb'⟩))
      go_wp2
      go_roundw
      case rel => exact ⟨k + 1, by omega, by go_num, by go_num, hB.trans ((by assumption : Below wr.heap.size wr _).mono hB.size)⟩
      case measure => simp [intOf]; omega
    · have hkn : k = n := by omega
      go_wp2
      go_ret
      exact ⟨ret_int (by rw [hkn]), hB⟩
end Go.Proofs.Ytoihkjnfklogpaa
