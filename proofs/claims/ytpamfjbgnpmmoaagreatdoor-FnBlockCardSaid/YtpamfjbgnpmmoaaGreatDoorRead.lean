/- The contract of the program's reader: it reads what 'rdT' reads. -/
import Derived.Test.YtpamfjbgnpmmoaaGreatDoorLeaf
import Derived.RegionTactic
import Derived.ChangeAlike
import Derived.Lib.Hide
import Derived.Deep.QuietTactic
import Derived.BigQuiet
namespace Go.Proofs.YtpamfjbgnpmmoaaGreatDoor
open Go.RowKit

def RdPost (res : Option (Tree × List UInt8)) (t : Tree) (rest : ByteArray) (ok : Bool) : Prop :=
  match res with
  | some (t', r) => ok = true ∧ t = t' ∧ rest.data.toList = r
  | none => ok = false

/-- What the reader hands back: a tree in new memory, the rest of the text, whether it read one. -/
def ReadR (res : Option (Tree × List UInt8)) (w : World) (e : Ending) (w' : World) : Prop :=
  ∃ a o l c rest ok t, e = .returned (.tuple #[.agg #[.string a, .slice o l c], .string rest, .bool ok]) ∧ Below w.heap.size w w' ∧ Rep w' (fun b => w.heap.size ≤ b) t (.agg #[.string a, .slice o l c]) ∧ RdPost res t rest ok

theorem take_prefix_len (p : UInt8 → Bool) (l : List UInt8) (k : Nat) (hk : k ≤ l.length) (h : ∀ j, j < k → (l[j]?).any p = true) (he : ∀ c, l[k]? = some c → p c = false) : l.takeWhile p = l.take k ∧ l.dropWhile p = l.drop k := by
  induction l generalizing k with
  | nil => simp at hk; subst hk; simp
  | cons x l ih =>
    cases k with
    | zero => have := he x rfl; simp [this]
    | succ k =>
      have h0 : p x = true := by simpa using h 0 (by omega)
      obtain ⟨i1, i2⟩ := ih k (by simpa using hk) (fun j hj => by simpa using h (j + 1) (by omega)) (fun c hc => he c (by simpa using hc))
      simp [h0, i1, i2]

theorem info50 : (Tryz.prog.info? 44).map (fun i => (i.zero, i.size, i.bytes)) = some (some (.agg #[.string ⟨#[]⟩, .slice none 0 0]), 2, 40) := by kernel_rfl

theorem Rep.leaf (w : World) (A : Nat → Prop) (a : ByteArray) : Rep w A (.node a []) (.agg #[.string a, .slice none 0 0]) := by
  simp only [Rep]; exact ⟨none, 0, 0, rfl, RepS.nil _ _ _, Nat.le_refl _⟩

theorem atom_done (s : ByteArray) (k f d : Nat) (w : World) (hks : k ≤ s.size) (hp : s.data.toList.head? ≠ some 40) (ht : s.data.toList.takeWhile atomB = s.data.toList.take k ∧ s.data.toList.dropWhile atomB = s.data.toList.drop k)
    {w' : World} (hw : w' = (w.alloc (.cells #[.string (s.extract 0 k), .slice none 0 0] 44)).drew) :
    ReadR (rdT (f + 1) d s.data.toList) w (.returned (.tuple #[.agg #[.string (s.extract 0 k), .slice none 0 0], .string (s.extract k s.size), .bool (decide (0 < k))])) w' := by
  subst hw
  rw [rdT_atom _ _ _ hp, ht.1, ht.2]
  refine ⟨_, _, _, _, _, _, .node (s.extract 0 k) [], rfl, ((Below.refl _ _).alloc (Nat.le_refl _) _).drew, Rep.leaf _ _ _, ?_⟩
  have e1 : s.extract 0 k = ⟨(s.data.toList.take k).toArray⟩ := by rw [Lib.extract_eq]; simp
  have e2 : (s.extract k s.size).data.toList = s.data.toList.drop k := Lib.extract_to_end _ _
  cases hk : (s.data.toList.take k).isEmpty
  · simp only [RdPost, Bool.false_eq_true, if_false]
    refine ⟨?_, by rw [e1], e2⟩
    cases k with
    | zero => simp at hk
    | succ k => simp
  · simp only [RdPost, if_true]
    simp only [List.isEmpty_iff, List.take_eq_nil_iff] at hk
    have : k = 0 := by
      rcases hk with hk | hk
      · exact hk
      · rw [Lib.size_eq, hk] at hks; simpa using hks
    simp [this]

set_option maxRecDepth 100000 in
set_option maxHeartbeats 400000 in
theorem readForm_atom (s : ByteArray) (d : Nat) (w : World) (hs : s.size ≤ 1000000000) (hp : s.data.toList.head? ≠ some 40) (f : Nat) :
    Calls Tryz.prog 31 #[.string s, .int .i64 d] w (ReadR (rdT (f + 1) d s.data.toList) w) := by
  have hd : decide (s.data.toList.head? = some 40) = false := by simpa using hp
  go_enter Tryz.func31, Tryz.ntmps31
  go_wp2_with (go_at_call 47; refine (hasPrefix_paren _ _).mono ?_; rintro e w' ⟨rfl, rfl⟩)
  go_loop [7] (fun i => ∃ k : Nat, k ≤ s.size ∧ i = .int .i64 k ∧ (∀ j, j < k → (s.data.toList[j]?).any atomB = true)) (fun i => s.size - (intOf i).toNat)
  case atStart => exact ⟨0, Nat.zero_le _, rfl, fun j hj => by omega⟩
  case round =>
    obtain ⟨k, hk, rfl, hall⟩ := hrel
    have HA := Lib.hid hall
    clear hall
    by_cases hlt : k < s.size
    · have hb : s.data.toList[k]? = some s[k] := by rw [List.getElem?_eq_getElem (by simpa using hlt)]; rfl
      have HB := Lib.hid hb
      clear hb
      by_cases hat : atomB s[k] = true
      · go_wp2_with (go_at_call 48; refine (isAtomByte_any _ _).mono ?_; rintro e w' ⟨rfl, rfl⟩)
        go_round
        case rel => exact ⟨k + 1, by omega, by go_num, fun j hj => by
          by_cases h : j = k
          · subst h; rw [HB.out]; simpa using hat
          · exact HA.out j (by omega)⟩
        case measure => simp [intOf]; omega
      · have hat' : atomB s[k] = false := by simpa using hat
        clear hat
        have ht := take_prefix_len atomB s.data.toList k (by rw [← Lib.size_eq]; exact hk) HA.out (fun c hc => by rw [HB.out] at hc; simp at hc; rw [← hc]; exact hat')
        have HT := Lib.hid ht
        clear ht
        go_wp2_with (go_at_call 48; refine (isAtomByte_any _ _).mono ?_; rintro e w' ⟨rfl, rfl⟩)
        go_region
        go_wp2
        exact bodyPost_ret (v := .tuple #[.agg #[.string (s.extract 0 k), .slice none 0 0], .string (s.extract k s.size), .bool (decide (0 < k))]) (by simp [results, Tryz.results31, go_sem]) rfl (atom_done s k f d w hk hp HT.out rfl)
    · have ht := take_prefix_len atomB s.data.toList k (by rw [← Lib.size_eq]; exact hk) HA.out (fun c hc => by rw [List.getElem?_eq_none (by rw [← Lib.size_eq]; omega)] at hc; simp at hc)
      have HT := Lib.hid ht
      clear ht
      go_wp2
      go_region
      go_wp2
      exact bodyPost_ret (v := .tuple #[.agg #[.string (s.extract 0 k), .slice none 0 0], .string (s.extract k s.size), .bool (decide (0 < k))]) (by simp [results, Tryz.results31, go_sem]) rfl (atom_done s k f d w hk hp HT.out rfl)

set_option maxRecDepth 100000 in
set_option maxHeartbeats 400000 in
theorem readForm_deep (s : ByteArray) (w : World) (hp : s.data.toList.head? = some 40) (f : Nat) :
    Calls Tryz.prog 31 #[.string s, .int .i64 60] w (ReadR (rdT (f + 1) 60 s.data.toList) w) := by
  have hd : decide (s.data.toList.head? = some 40) = true := by simpa using hp
  obtain ⟨l, hl⟩ : ∃ l, s.data.toList = 40 :: l := by
    cases h : s.data.toList with
    | nil => simp [h] at hp
    | cons c l => simp [h] at hp; exact ⟨l, by rw [hp]⟩
  have hr : rdT (f + 1) 60 s.data.toList = none := by rw [hl, rdT_paren, if_pos rfl]
  rw [hr]
  go_enter Tryz.func31, Tryz.ntmps31
  go_wp2_with (go_at_call 47; refine (hasPrefix_paren _ _).mono ?_; rintro e w' ⟨rfl, rfl⟩)
  exact bodyPost_ret (v := .tuple #[.agg #[.string ⟨#[]⟩, .slice none 0 0], .string ⟨#[]⟩, .bool false]) (by simp [results, Tryz.results31, go_sem]) rfl ⟨_, _, _, _, _, _, .node ⟨#[]⟩ [], rfl, (Below.refl _ _).alloc (Nat.le_refl _) _, Rep.leaf _ _ _, rfl⟩

def strSize : Value → Nat | .string s => s.size | _ => 0

/-- What holds of the two variables of the call: the result's, and the tree that is made. -/
structure RdLoc (ty : TypeId) (w wr : World) (o : Option Addr) (n c : Nat) : Prop where
  below : Below w.heap.size w wr
  res : wr.heap[w.heap.size]? = some (.cells #[.string ⟨#[]⟩, .slice none 0 0] ty (0, 0))
  out : wr.heap[w.heap.size + 1]? = some (.cells #[.string ⟨#[]⟩, .slice o n c] ty (0, 0))

theorem RdLoc.start (ty : TypeId) (w : World) : RdLoc ty w ((w.alloc (.cells #[.string ⟨#[]⟩, .slice none 0 0] ty)).alloc (.cells #[.string ⟨#[]⟩, .slice none 0 0] ty)) none 0 0 where
  below := ((Below.refl _ _).alloc (Nat.le_refl _) _).alloc (by simp) _
  res := (Below.heap_alloc _ _ _ (by simp)).trans (heap_alloc_new w _)
  out := by rw [show w.heap.size + 1 = (w.alloc (.cells #[.string ⟨#[]⟩, .slice none 0 0] ty)).heap.size from by simp]; exact heap_alloc_new _ _

theorem RdLoc.size {ty : TypeId} {w wr : World} {o : Option Addr} {n c : Nat} (h : RdLoc ty w wr o n c) : w.heap.size + 2 ≤ wr.heap.size := by
  have := (Array.getElem?_eq_some_iff.1 h.out).1; omega

theorem RdLoc.step {ty : TypeId} {w wr w1 : World} {o : Option Addr} {n c : Nat} (h : RdLoc ty w wr o n c) (hb : Below (w.heap.size + 2) wr w1) : RdLoc ty w w1 o n c :=
  ⟨h.below.trans (hb.mono (by omega)), (hb.block _ (by omega)).trans h.res, (hb.block _ (by omega)).trans h.out⟩

theorem RdLoc.set {ty : TypeId} {w wr : World} {o : Option Addr} {n c : Nat} (h : RdLoc ty w wr o n c) (o' : Option Addr) (n' c' : Nat) : RdLoc ty w (wr.setCell ⟨w.heap.size + 1, 1, none⟩ (.slice o' n' c')) o' n' c' where
  below := h.below.setCell (by simp) _
  res := (Below.heap_setCell _ _ _ _ (by simp)).trans h.res
  out := by simp [World.setCell, Array.getElem?_modify, h.out]

theorem RdLoc.facts {ty : TypeId} {w w1 : World} {o : Option Addr} {n c : Nat} (h : RdLoc ty w w1 o n c) :
    w1.cell? ⟨w.heap.size, 0, none⟩ = some (.string ⟨#[]⟩) ∧ w1.cell? ⟨w.heap.size, 1, none⟩ = some (.slice none 0 0) ∧ w1.cell? ⟨w.heap.size + 1, 0, none⟩ = some (.string ⟨#[]⟩) ∧
    w1.cell? ⟨w.heap.size + 1, 1, none⟩ = some (.slice o n c) ∧ (∀ j, w1.frozen? ⟨w.heap.size, j, none⟩ = false) ∧ (∀ j, w1.frozen? ⟨w.heap.size + 1, j, none⟩ = false) ∧ w.heap.size < w1.heap.size ∧ w.heap.size + 1 < w1.heap.size := by
  refine ⟨?_, ?_, ?_, ?_, ?_, ?_, ?_, ?_⟩
  · simp [World.cell?, h.res]
  · simp [World.cell?, h.res]
  · simp [World.cell?, h.out]
  · simp [World.cell?, h.out]
  · intro j; simp [World.frozen?, h.res]
  · intro j; simp [World.frozen?, h.out]
  · have := h.size; omega
  · have := h.size; omega

/-- What holds of the world at each round's head: besides, the parts read so far. -/
structure RdInv (ty : TypeId) (w wr : World) (o : Option Addr) (c : Nat) (acc : List Tree) : Prop where
  loc : RdLoc ty w wr o acc.length c
  row : TRow wr (w.heap.size + 2) ty (.slice o acc.length c) acc

theorem RdInv.start (ty : TypeId) (w : World) : RdInv ty w ((w.alloc (.cells #[.string ⟨#[]⟩, .slice none 0 0] ty)).alloc (.cells #[.string ⟨#[]⟩, .slice none 0 0] ty)) none 0 [] :=
  ⟨RdLoc.start ty w, TRow.nil _ _ _⟩

theorem rd_len {f d : Nat} {s : List UInt8} {t : Tree} {r : List UInt8} (h : rdT f d s = some (t, r)) (hd : d ≤ 60) : r.length + 1 ≤ s.length := by
  obtain ⟨h1, h2, _⟩ := (rd_sound f).1 _ _ _ _ h hd
  obtain ⟨c, l, hl, _⟩ := good_text_head t h1
  rw [h2, hl]; simp only [List.length_append, List.length_cons]; omega

theorem RdInv.next {ty : TypeId} {w w2 : World} {o : Option Addr} {n c g cap : Nat} {acc : List Tree} {t : Tree} (h : RdLoc ty w w2 o n c) (hrow : TRow w2 (w.heap.size + 2) ty (.slice (some ⟨g, 0, none⟩) (acc.length + 1) cap) (acc ++ [t])) :
    RdInv ty w (w2.setCell ⟨w.heap.size + 1, 1, none⟩ (.slice (some ⟨g, 0, none⟩) (acc.length + 1) cap)) (some ⟨g, 0, none⟩) cap (acc ++ [t]) := by
  have e : (acc ++ [t]).length = acc.length + 1 := by simp
  refine ⟨?_, ?_⟩
  · rw [e]; exact h.set _ _ _
  · rw [e]; exact hrow.setCell (by simp) _

theorem readDone (w : World) (s : ByteArray) (w3 : World) {w2 : World} (d f : Nat) (acc : List Tree) (t : Tree) (rest : ByteArray) (r' : List UInt8) (g cap : Nat) (h : rdT (f + 1) d s.data.toList = some (.node ⟨#[]⟩ (acc ++ [t]), r')) (hr : rest.data.toList = 41 :: r')
    (hb : Below w.heap.size w w2) (hb3 : Below w.heap.size w2 w3) (hrow : TRow w3 (w.heap.size + 2) 44 (.slice (some ⟨g, 0, none⟩) (acc.length + 1) cap) (acc ++ [t])) :
    ReadR (rdT (f + 1) d s.data.toList) w (.returned (.tuple #[.agg #[.string ⟨#[]⟩, .slice (some ⟨g, 0, none⟩) (acc.length + 1) cap], .string (rest.extract 1 rest.size), .bool true])) w3 := by
  rw [h]
  refine ⟨_, _, _, _, _, _, _, rfl, hb.trans hb3, Rep.weak (fun b hb => by omega) _ _ (hrow.rep ⟨#[]⟩), rfl, rfl, ?_⟩
  rw [Lib.extract_to_end, hr]; rfl

set_option maxRecDepth 100000 in
set_option maxHeartbeats 1600000 in
theorem readForm_any (n : Nat) : ∀ (s : ByteArray) (d f : Nat) (w : World), s.size ≤ n → 2 * s.size + 2 ≤ f → d ≤ 60 → s.size ≤ 1000000000 →
    Calls Tryz.prog 31 #[.string s, .int .i64 d] w (ReadR (rdT f d s.data.toList) w) := by
  induction n with
  | zero =>
    intro s d f w hn hf hd hs
    obtain ⟨f, rfl⟩ : ∃ g, f = g + 1 := ⟨f - 1, by omega⟩
    have : s.data.toList = [] := List.eq_nil_of_length_eq_zero (by rw [← Lib.size_eq]; omega)
    exact readForm_atom s d w hs (by simp [this]) f
  | succ n ih =>
    intro s d f w hn hf hd hs
    obtain ⟨f, rfl⟩ : ∃ g, f = g + 1 := ⟨f - 1, by omega⟩
    by_cases hp : s.data.toList.head? = some 40
    · by_cases hd60 : d = 60
      · subst hd60; exact readForm_deep s w hp f
      · have hdd : ((d : Int) == 60) = false := by simp; omega
        have hd' : decide (s.data.toList.head? = some 40) = true := by simpa using hp
        obtain ⟨l, hl⟩ : ∃ l, s.data.toList = 40 :: l := by
          cases h : s.data.toList with
          | nil => simp [h] at hp
          | cons c l => simp [h] at hp; exact ⟨l, by rw [hp]⟩
        have hs1 : 1 ≤ s.size := by rw [Lib.size_eq, hl]; simp
        have hstart : Hid (rdT (f + 1) d s.data.toList = rdL f d [] s.data.toList.tail) := by show _ = _; rw [hl, rdT_paren, if_neg hd60]; rfl
        have hd59 : d < 60 := by omega
        clear hl hp hd60
        obtain ⟨i0, hi, hz0, hz1, hz2⟩ := info_parts info50
        go_enter Tryz.func31, Tryz.ntmps31
        go_wp2_with (go_at_call 47; refine (hasPrefix_paren _ _).mono ?_; rintro e w' ⟨rfl, rfl⟩)
        go_loopw [0] (fun sv wr => ∃ (cur : ByteArray) (acc : List Tree) (g : Nat) (o : Option Addr) (c : Nat), sv = .string cur ∧ 1 ≤ cur.size ∧ acc.length + cur.size ≤ s.size ∧ 2 * cur.size + 1 ≤ g ∧
            Hid (rdT (f + 1) d s.data.toList = rdL g d acc cur.data.toList.tail) ∧ RdInv 44 w wr o c acc) (fun sv _ => strSize sv)
        case atStart => exact ⟨s, [], f, none, 0, rfl, hs1, by simp, by omega, hstart, RdInv.start _ w⟩
        case round =>
          obtain ⟨cur, acc, g, o, c, rfl, hc1, hc2, hg, HR, hinv⟩ := hrel
          obtain ⟨g, rfl⟩ : ∃ g', g = g' + 1 := ⟨g - 1, by omega⟩
          have hcall := fun W => ih (cur.extract 1 cur.size) (d + 1) g W (by rw [Lib.size_eq, Lib.extract_to_end, List.length_drop, ← Lib.size_eq]; omega) (by rw [Lib.size_eq, Lib.extract_to_end, List.length_drop, ← Lib.size_eq]; omega) (by omega) (by rw [Lib.size_eq, Lib.extract_to_end, List.length_drop, ← Lib.size_eq]; omega)
          rw [show ((d + 1 : Nat) : Int) = (d : Int) + 1 from by omega] at hcall
          have HC := Lib.hid hcall
          clear hcall ih
          go_wp2_with fail
          refine (HC.out _).mono ?_
          rintro e w1 ⟨a', o', l', c', rest, ok, t, rfl, hb1, hr1, hpost⟩
          have htl : (cur.extract 1 cur.size).data.toList = cur.data.toList.tail := by rw [Lib.extract_to_end, List.drop_one]
          rw [htl] at hpost
          have hloc : RdLoc 44 w w1 o acc.length c := hinv.loc.step (hb1.mono hinv.loc.size)
          have hbel := hloc.below
          obtain ⟨f1, f2, f3, f4, f5, f6, f8, f9⟩ := hloc.facts
          cases hrd : rdT g (d + 1) cur.data.toList.tail with
          | none =>
            rw [hrd] at hpost
            have hok : ok = false := hpost
            subst hok
            have hfin : Hid (rdT (f + 1) d s.data.toList = none) := by
              show _ = _; rw [HR.out]; exact rdL_none (fun p c r h => by rw [hrd] at h; simp at h)
            clear hrd hpost HC
            go_wp2
            exact bodyPost_ret (v := .tuple #[.agg #[.string ⟨#[]⟩, .slice none 0 0], .string ⟨#[]⟩, .bool false]) (by simp [results, Tryz.results31, go_sem, f1, f2, f8]) rfl ⟨_, _, _, _, _, _, .node ⟨#[]⟩ [], rfl, by repeat' (first | exact hbel | refine Below.setCell ?_ (by simp) _ | refine Below.alloc ?_ (by have := hbel.size; simp; omega) _), Rep.leaf _ _ _, by rw [hfin.out]; rfl⟩
          | some x =>
            obtain ⟨t', r⟩ := x
            rw [hrd] at hpost
            obtain ⟨hok, ht, hr⟩ := hpost
            subst hok ht
            cases r with
            | nil =>
              have hfin : Hid (rdT (f + 1) d s.data.toList = none) := by
                show _ = _; rw [HR.out]; exact rdL_none (fun p c r h => by rw [hrd] at h; simp at h)
              have hemp : rest.toList.isEmpty = true := by rw [Lib.toList_data, hr]; rfl
              clear hrd hr HC
              go_wp2
              exact bodyPost_ret (v := .tuple #[.agg #[.string ⟨#[]⟩, .slice none 0 0], .string ⟨#[]⟩, .bool false]) (by simp [results, Tryz.results31, go_sem, f1, f2, f8]) rfl ⟨_, _, _, _, _, _, .node ⟨#[]⟩ [], rfl, by repeat' (first | exact hbel | refine Below.setCell ?_ (by simp) _ | refine Below.alloc ?_ (by have := hbel.size; simp; omega) _), Rep.leaf _ _ _, by rw [hfin.out]; rfl⟩
            | cons x r' =>
              have hemp : rest.toList.isEmpty = false := by rw [Lib.toList_data, hr]; rfl
              have hrs : 0 < rest.size := by rw [Lib.size_eq, hr]; simp
              have hx : rest[0] = x := by
                have : rest.data.toList[0]? = some x := by rw [hr]; rfl
                rw [List.getElem?_eq_getElem (by rw [hr]; simp)] at this
                exact Option.some.inj this
              have hrow1 := hinv.row.below hb1
              have hrep1 := Rep.bound _ _ hr1
              have hown1 : ∀ b, (wr.heap.size ≤ b ∧ b < w1.heap.size) → w.heap.size + 2 ≤ b ∧ b < w1.heap.size + 1 ∧ Value.ownBlock (.slice o acc.length c) ≠ some b := by
                intro b hb
                refine ⟨by have := hinv.loc.size; omega, by omega, fun h => ?_⟩
                have := (hinv.row.ownLt h).2; omega
              have hxn : ((rest[0].toNat : Nat) : Int) = x.toNat := by rw [hx]
              by_cases h41 : x = 41
              · subst h41
                go_wp2_with (at_builtin; refine wpList_append_box rfl (.tmp 66) (.tmp 68) 37 rfl (w.heap.size + 2) 44 i0 _ 40 Tryz.underlying37 hi hz0 hz1 hz2 rfl (by decide) (.slice o acc.length c) rfl acc _ 1 _ rfl (by simp) t (.string a') (.slice o' l' c') rfl rfl (hrow1.alloc _) (Rep.keep (Keeps.alloc _ _ _) _ _ hrep1) (by simpa using hown1) (by omega) (by simp; omega) ?_; intro g' cap w2 hrow2 hb2; have hloc2 : RdLoc 44 w w2 o acc.length c := (hloc.step ((Below.refl _ _).alloc (by have := hloc.size; omega) _)).step hb2; obtain ⟨e1, e2, e3, e4, e5, e6, e8, e9⟩ := hloc2.facts; clear f1 f2 f3 f4 f5 f6)
                have hfin : Hid (rdT (f + 1) d s.data.toList = some (.node ⟨#[]⟩ (acc ++ [t]), r')) := by
                  show _ = _; rw [HR.out]; exact rdL_close hrd
                go_region
                go_wp2
                exact bodyPost_ret (v := .tuple #[.agg #[.string ⟨#[]⟩, .slice (some ⟨g', 0, none⟩) (acc.length + 1) cap], .string (rest.extract 1 rest.size), .bool true]) (by simp [results, Tryz.results31, go_sem, e1, e2]) rfl (readDone w s _ d f acc t rest r' g' cap hfin.out hr hloc2.below
                  (((((Below.refl _ _).setCell (by simp) _).setCell (by simp) _).setCell (by simp) _).drew) ((((hrow2.setCell (by simp) _).setCell (by simp) _).setCell (by simp) _).drew))
              · have n41 : ((x.toNat : Int) == 41) = false := by
                  simp only [beq_eq_false_iff_ne, ne_eq]; intro h; exact h41 (UInt8.toNat_inj.1 (by simp; omega))
                have m41 : ((x.toNat : Int) != 41) = true := by rw [bne, n41]; rfl
                by_cases h32 : x = 32
                · subst h32
                  have hlen : rest.size + 2 ≤ cur.size := by
                    have := rd_len hrd (by omega)
                    rw [← hr, ← Lib.size_eq, List.length_tail, ← Lib.size_eq] at this; omega
                  have hnext : Hid (rdT (f + 1) d s.data.toList = rdL g d (acc ++ [t]) rest.data.toList.tail) := by
                    show _ = _; rw [HR.out, rdL_space hrd, hr]; rfl
                  clear hr hrd HR
                  go_wp2_with (at_builtin; refine wpList_append_box rfl (.tmp 66) (.tmp 68) 37 rfl (w.heap.size + 2) 44 i0 _ 40 Tryz.underlying37 hi hz0 hz1 hz2 rfl (by decide) (.slice o acc.length c) rfl acc _ 1 _ rfl (by simp) t (.string a') (.slice o' l' c') rfl rfl (hrow1.alloc _) (Rep.keep (Keeps.alloc _ _ _) _ _ hrep1) (by simpa using hown1) (by omega) (by simp; omega) ?_; intro g' cap w2 hrow2 hb2; have hloc2 : RdLoc 44 w w2 o acc.length c := (hloc.step ((Below.refl _ _).alloc (by have := hloc.size; omega) _)).step hb2; obtain ⟨e1, e2, e3, e4, e5, e6, e8, e9⟩ := hloc2.facts; clear f1 f2 f3 f4 f5 f6)
                  go_roundw
                  case rel => exact ⟨rest, acc ++ [t], g, some ⟨g', 0, none⟩, cap, rfl, hrs, by simp; omega, by omega, hnext, RdInv.next hloc2 hrow2⟩
                  case measure => simp [strSize]; omega
                · have n32 : ((x.toNat : Int) == 32) = false := by
                    simp only [beq_eq_false_iff_ne, ne_eq]; intro h; exact h32 (UInt8.toNat_inj.1 (by simp; omega))
                  have m32 : ((x.toNat : Int) != 32) = true := by rw [bne, n32]; rfl
                  have hfin : Hid (rdT (f + 1) d s.data.toList = none) := by
                    show _ = _; rw [HR.out]; exact rdL_none (fun p c r h => by rw [hrd] at h; simp only [Option.some.injEq, Prod.mk.injEq, List.cons.injEq] at h; obtain ⟨_, rfl, _⟩ := h; exact ⟨h41, h32⟩)
                  clear hr hrd HR HC
                  go_wp2
                  exact bodyPost_ret (v := .tuple #[.agg #[.string ⟨#[]⟩, .slice none 0 0], .string ⟨#[]⟩, .bool false]) (by simp [results, Tryz.results31, go_sem, f1, f2, f8]) rfl ⟨_, _, _, _, _, _, .node ⟨#[]⟩ [], rfl, by repeat' (first | exact hbel | refine Below.setCell ?_ (by simp) _ | refine Below.alloc ?_ (by have := hbel.size; simp; omega) _), Rep.leaf _ _ _, by rw [hfin.out]; rfl⟩
    · exact readForm_atom s d w hs hp f

/-- What a whole text reads as: a tree in new memory, and whether it is a form. -/
def ReadP (res : Option Tree) (w : World) (e : Ending) (w' : World) : Prop :=
  ∃ a o l c ok t, e = .returned (.tuple #[.agg #[.string a, .slice o l c], .bool ok]) ∧ Below w.heap.size w w' ∧ Rep w' (fun b => w.heap.size ≤ b) t (.agg #[.string a, .slice o l c]) ∧ ok = res.isSome ∧ (∀ t', res = some t' → t = t')

theorem parse_none {s : List UInt8} {t : Tree} {rest : ByteArray} (hl : ¬ 12000 < s.length) (h : RdPost (rdT (2 * s.length + 2) 0 s) t rest false) : parse s = none := by
  unfold parse
  rw [if_neg hl]
  cases hrd : rdT (2 * s.length + 2) 0 s with
  | none => rfl
  | some x => rw [hrd] at h; exact absurd h.1 (by decide)

theorem parse_some {s : List UInt8} {t : Tree} {rest : ByteArray} (hl : ¬ 12000 < s.length) (h : RdPost (rdT (2 * s.length + 2) 0 s) t rest true) :
    rest.toList.isEmpty = (parse s).isSome ∧ (∀ t', parse s = some t' → t = t') := by
  unfold parse
  rw [if_neg hl, Lib.toList_data]
  cases hrd : rdT (2 * s.length + 2) 0 s with
  | none => rw [hrd] at h; exact absurd (show true = false from h) (by decide)
  | some x =>
    obtain ⟨t', r⟩ := x
    rw [hrd] at h
    obtain ⟨_, rfl, hr⟩ := h
    rw [hr]
    cases r with
    | nil => exact ⟨rfl, fun t' h => by simpa using h⟩
    | cons c r => exact ⟨rfl, fun t' h => by simp at h⟩

set_option maxRecDepth 100000 in
set_option maxHeartbeats 400000 in
theorem read_any (s : ByteArray) (w : World) (hs : s.size ≤ 1000000000) : Calls Tryz.prog 19 #[.string s] w (ReadP (parse s.data.toList) w) := by
  by_cases h1 : 12000 < s.size
  · have hp : parse s.data.toList = none := by unfold parse; rw [if_pos (by rw [← Lib.size_eq]; exact h1)]
    rw [hp]
    go_enter Tryz.func19, Tryz.ntmps19
    go_wp2
    exact bodyPost_ret (v := .tuple #[.agg #[.string ⟨#[]⟩, .slice none 0 0], .bool false]) (by simp [results, Tryz.results19, go_sem]) rfl ⟨_, _, _, _, _, .node ⟨#[]⟩ [], rfl, (Below.refl _ _).alloc (Nat.le_refl _) _, Rep.leaf _ _ _, rfl, fun _ h => by cases h⟩
  · have hc := fun W => readForm_any s.size s 0 (2 * s.data.toList.length + 2) W (Nat.le_refl _) (by rw [← Lib.size_eq]; exact Nat.le_refl _) (by omega) hs
    have HC := Lib.hid hc
    clear hc
    go_enter Tryz.func19, Tryz.ntmps19
    go_wp2_with fail
    refine (HC.out _).mono ?_
    rintro e w1 ⟨a, o, l, c, rest, ok, t, rfl, hb1, hr, hp⟩
    have hB : Below w.heap.size w w1 := ((Below.refl _ _).alloc (Nat.le_refl _) _).trans (hb1.mono (by simp))
    obtain ⟨hc1, hf1⟩ := bcell hb1; have hz1 := hb1.size; simp only [World.size_alloc] at hc1 hf1 hz1; have hy1_0 : w.heap.size < w1.heap.size := by omega
    cases ok
    · have hpn : parse s.data.toList = none := parse_none (by rw [← Lib.size_eq]; omega) hp
      have HN := Lib.hid hpn
      clear hpn hp
      go_wp2
      exact bodyPost_ret (v := .tuple #[.agg #[.string a, .slice o l c], .bool false]) (by simp [results, Tryz.results19, go_sem, hc1, hy1_0]) rfl ⟨_, _, _, _, _, t, rfl, ((hB.setCell (by simp) _).setCell (by simp) _).alloc (by simp; omega) _,
        Rep.weak (fun b (hb : w.heap.size + 1 ≤ b) => by omega) _ _ (Rep.keep ((((Keeps.refl _ _).setCell (fun b hb => by simp at hb ⊢; omega) _).setCell (fun b hb => by simp at hb ⊢; omega) _).alloc' _) _ _ (Rep.weak (fun b hb => by simpa using hb) _ _ hr)), by rw [HN.out]; rfl, fun t' ht => by rw [HN.out] at ht; cases ht⟩
    · have hps := parse_some (by rw [← Lib.size_eq]; omega) hp
      have HN := Lib.hid hps
      clear hps hp
      go_wp2
      exact bodyPost_ret (v := .tuple #[.agg #[.string a, .slice o l c], .bool rest.toList.isEmpty]) (by simp [results, Tryz.results19, go_sem, hc1, hy1_0]) rfl ⟨_, _, _, _, _, t, rfl, ((hB.setCell (by simp) _).setCell (by simp) _).alloc (by simp; omega) _,
        Rep.weak (fun b (hb : w.heap.size + 1 ≤ b) => by omega) _ _ (Rep.keep ((((Keeps.refl _ _).setCell (fun b hb => by simp at hb ⊢; omega) _).setCell (fun b hb => by simp at hb ⊢; omega) _).alloc' _) _ _ (Rep.weak (fun b hb => by simpa using hb) _ _ hr)), HN.out.1, HN.out.2⟩

end Go.Proofs.YtpamfjbgnpmmoaaGreatDoor
