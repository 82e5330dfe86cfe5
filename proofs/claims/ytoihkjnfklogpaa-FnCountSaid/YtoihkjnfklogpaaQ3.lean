/- Tree. Form. Several texts in one. -/
import Derived.Test.YtoihkjnfklogpaaLeaf
import Derived.Lib.Hide
import Derived.Test.YtoihkjnfklogpaaSRead
/- The contracts of the functions that go through a tree: size, depth, of the program and of the reference. -/
namespace Go.Proofs.Ytoihkjnfklogpaa
open Go.RowKit

set_option maxRecDepth 100000 in
set_option maxHeartbeats 400000 in
theorem isAtom_any (s : ByteArray) (a : Option Addr) (l c : Nat) (w : World) :
    Calls Try.prog 54 #[.agg #[.string s, .slice a l c]] w fun e w' => e = .returned (.bool ((l : Int) == 0)) ∧ Below w.heap.size w w' := by
  go_enter Try.func54, Try.ntmps54
  go_wp2
  go_ret
  exact ⟨rfl, (Below.refl _ _).alloc (Nat.le_refl _) _⟩

set_option maxRecDepth 100000 in
set_option maxHeartbeats 400000 in
theorem size_any (n : Nat) : ∀ (t : Tree) (A : Nat → Prop) (v : Value) (w : World), t.sz ≤ n → Rep w A t v → t.sz ≤ 1000000000 →
    Calls Try.prog 48 #[v] w fun e w' => e = .returned (.int .i64 t.size) ∧ Below w.heap.size w w' := by
  induction n with
  | zero => intro t A v w h; cases t; simp [Tree.sz] at h
  | succ n ih =>
    intro t A v w hn hr hb
    obtain ⟨s, ps⟩ := t
    simp only [Rep] at hr
    obtain ⟨o, l, c, rfl, hs, hcap⟩ := hr
    obtain rfl := hs.len
    have hB0 : Below w.heap.size w (w.alloc (.cells #[.string s, .slice o ps.length c] 46)) := (Below.refl _ _).alloc (Nat.le_refl _) _
    by_cases hp : ps = []
    · subst hp
      go_enter Try.func48, Try.ntmps48
      go_wp2_with (go_at_call 54; refine (isAtom_any _ _ _ _ _).mono ?_; rintro e w1 ⟨rfl, hb1⟩; obtain ⟨hc1, hf1⟩ := bcell hb1; have hz1 := hb1.size; simp only [World.size_alloc] at hc1 hf1 hz1)
      go_ret
      exact ⟨by simp [Tree.size], hB0.trans (hb1.mono (by simp))⟩
    · have hlen : ((ps.length : Int) == 0) = false := by simpa using hp
      go_enter Try.func48, Try.ntmps48
      go_wp2_with (go_at_call 54; refine (isAtom_any _ _ _ _ _).mono ?_; rintro e w1 ⟨rfl, hb1⟩; obtain ⟨hc1, hf1⟩ := bcell hb1; have hz1 := hb1.size; simp only [World.size_alloc] at hc1 hf1 hz1)
      have hsz : (Tree.node s ps).size = Tree.sizeL ps := by simp [Tree.size, hp]
      have hB1 : Below w.heap.size w w1 := hB0.trans (hb1.mono (by simp))
      clear hc1 hf1 hb1 hB0
      have HS := Lib.hid hsz
      have hb1 := Tree.sizeL_le_szL ps
      have hb2 := Tree.length_le_szL ps
      simp only [Tree.sz] at hb
      clear hsz
      go_loopw [3, 11] (fun m i wr => ∃ k : Nat, k ≤ ps.length ∧ i = .int .i64 k ∧ m = .int .i64 (Tree.sizeL (ps.take k)) ∧ Below w.heap.size w wr) (fun _ i _ => ps.length - (intOf i).toNat)
      case atStart => exact ⟨0, Nat.zero_le _, rfl, by simp [Tree.sizeL], hB1⟩
      case round =>
        obtain ⟨k, hk, rfl, rfl, hbr⟩ := hrel
        by_cases hlt : k < ps.length
        · obtain ⟨p, hp⟩ : ∃ p, ps[k]? = some p := ⟨ps[k], by simp [hlt]⟩
          obtain ⟨b, off, o', n', c', rfl, -, hx, hy, hrp⟩ := (RepS.keep (Keeps.below hbr) _ _ _ hs).partAt hp
          have h1 := Tree.sizeL_take ps k p hp
          have h3 : p.sz ≤ n := by have := Tree.sz_part ps k p hp; simp only [Tree.sz] at hn; omega
          have h4 : p.sz ≤ 1000000000 := by have := Tree.sz_part ps k p hp; omega
          have h5 := Tree.size_le_sz p
          have h2 := show Tree.sizeL (ps.take k) + p.size ≤ Tree.szL ps from by rw [← h1]; exact Nat.le_trans (Tree.sizeL_take_le ps (k + 1)) hb1
          have HT := Lib.hid h1
          clear h1
          clear hp
          go_wp2_with (go_at_call 48; refine (ih _ A _ _ h3 (Rep.keep (Keeps.alloc _ _ _) _ _ hrp) (by omega)).mono ?_; rintro e w1 ⟨rfl, hb2⟩)
          go_roundw
          case rel => exact ⟨k + 1, by omega, by go_num, by rw [HT.out]; go_num, (hbr.alloc hbr.size _).trans (hb2.mono (by have := hbr.size; simp; omega))⟩
          case measure => simp [intOf]; omega
        · go_wp2
          go_ret
          obtain rfl : k = ps.length := by omega
          exact ⟨by rw [HS.out]; simp, hbr⟩

set_option maxRecDepth 100000 in
set_option maxHeartbeats 400000 in
theorem l1Size_any (n : Nat) : ∀ (t : Tree) (A : Nat → Prop) (v : Value) (w : World), t.sz ≤ n → Rep w A t v → t.sz ≤ 1000000000 → t.good = true →
    Calls Try.prog 51 #[v] w fun e w' => e = .returned (.int .i64 t.size) ∧ Below w.heap.size w w' := by
  induction n with
  | zero => intro t A v w h; cases t; simp [Tree.sz] at h
  | succ n ih =>
    intro t A v w hn hr hb hgood
    obtain ⟨s, ps⟩ := t
    simp only [Rep] at hr
    obtain ⟨o, l, c, rfl, hs, hcap⟩ := hr
    obtain rfl := hs.len
    obtain ⟨hgl, hge⟩ := Tree.good_parts hgood
    have hB0 : Below w.heap.size w (w.alloc (.cells #[.string s, .slice o ps.length c] 40)) := (Below.refl _ _).alloc (Nat.le_refl _) _
    by_cases hp : ps = []
    · subst hp
      have hemp : s.toList.isEmpty = false := by rw [Lib.toList_data]; simpa using hge.1 rfl
      go_enter Try.func51, Try.ntmps51
      go_wp2
      go_ret
      exact ⟨by simp [Tree.size], hB0⟩
    · have hemp : s.toList.isEmpty = true := by rw [Lib.toList_data]; have : s.data.toList = [] := Classical.byContradiction fun h => hp (hge.2 h); rw [this]; rfl
      have hsz : (Tree.node s ps).size = Tree.sizeL ps := by simp [Tree.size, hp]
      have HS := Lib.hid hsz
      have HG := Lib.hid hgl
      clear hsz hge hgl
      have hb1 := Tree.sizeL_le_szL ps
      have hb2 := Tree.length_le_szL ps
      have hpl : 0 < ps.length := List.length_pos_iff.2 hp
      clear hp
      simp only [Tree.sz] at hb
      go_enter Try.func51, Try.ntmps51
      go_wp2
      go_loopw [3, 4] (fun m i wr => ∃ k : Nat, k ≤ ps.length ∧ i = .int .i64 k ∧ m = .int .i64 ((Tree.sizeL (ps.take k) : Nat)) ∧ Below (w.heap.size + 1) (w.alloc (.cells #[.string s, .slice o ps.length c] 40)) wr) (fun _ i _ => ps.length - (intOf i).toNat)
      case atStart => exact ⟨0, Nat.zero_le _, rfl, by simp [Tree.sizeL], Below.refl _ _⟩
      case round =>
        obtain ⟨k, hk, rfl, rfl, hbr⟩ := hrel
        have hB : Below w.heap.size w wr := hB0.trans (hbr.mono (by omega))
        have c0 : wr.cell? ⟨w.heap.size, 0, none⟩ = some (.string s) := (hbr.cell (p := ⟨w.heap.size, 0, none⟩) (by simp)).trans (two_new _ _ _ _).1
        have c1 : wr.cell? ⟨w.heap.size, 1, none⟩ = some (.slice o ps.length c) := (hbr.cell (p := ⟨w.heap.size, 1, none⟩) (by simp)).trans (two_new _ _ _ _).2
        by_cases hlt : k < ps.length
        · obtain ⟨p, hp⟩ : ∃ p, ps[k]? = some p := ⟨ps[k], by simp [hlt]⟩
          obtain ⟨b, off, o', n', c', rfl, -, hx, hy, hrp⟩ := (RepS.keep (Keeps.below hB) _ _ _ hs).partAt hp
          have h1 := Tree.sizeL_take ps k p hp
          have h3 : p.sz ≤ n := by have := Tree.sz_part ps k p hp; simp only [Tree.sz] at hn; omega
          have h4 : p.sz ≤ 1000000000 := by have := Tree.sz_part ps k p hp; omega
          have h5 := Tree.size_le_sz p
          have h6 := Tree.good_part ps k p hp HG.out
          have HG6 := Lib.hid h6
          have h2 := show Tree.sizeL (ps.take k) + p.size ≤ Tree.szL ps from by rw [← h1]; exact Nat.le_trans (Tree.sizeL_take_le ps (k + 1)) hb1
          have HT := Lib.hid h1
          clear h1 h6
          clear hp
          go_wp2_with (go_at_call 51; refine (ih _ A _ _ h3 hrp (by omega) HG6.out).mono ?_; rintro e w1 ⟨rfl, hb2⟩)
          go_roundw
          case rel => exact ⟨k + 1, by omega, by go_num, by rw [HT.out]; go_num, hbr.trans (hb2.mono (by have := hbr.size; simp at this; omega))⟩
          case measure => simp [intOf]; omega
        · go_wp2
          go_ret
          obtain rfl : k = ps.length := by omega
          exact ⟨by rw [HS.out]; simp, hB⟩

set_option maxRecDepth 100000 in
set_option maxHeartbeats 400000 in
theorem depth_any (n : Nat) : ∀ (t : Tree) (A : Nat → Prop) (v : Value) (w : World), t.sz ≤ n → Rep w A t v → t.sz ≤ 1000000000 →
    Calls Try.prog 108 #[v] w fun e w' => e = .returned (.int .i64 t.depth) ∧ Below w.heap.size w w' := by
  induction n with
  | zero => intro t A v w h; cases t; simp [Tree.sz] at h
  | succ n ih =>
    intro t A v w hn hr hb
    obtain ⟨s, ps⟩ := t
    simp only [Rep] at hr
    obtain ⟨o, l, c, rfl, hs, hcap⟩ := hr
    obtain rfl := hs.len
    have hB0 : Below w.heap.size w (w.alloc (.cells #[.string s, .slice o ps.length c] 46)) := (Below.refl _ _).alloc (Nat.le_refl _) _
    by_cases hp : ps = []
    · subst hp
      go_enter Try.func108, Try.ntmps108
      go_wp2_with (go_at_call 54; refine (isAtom_any _ _ _ _ _).mono ?_; rintro e w1 ⟨rfl, hb1⟩; obtain ⟨hc1, hf1⟩ := bcell hb1; have hz1 := hb1.size; simp only [World.size_alloc] at hc1 hf1 hz1)
      go_ret
      exact ⟨by simp [Tree.depth], hB0.trans (hb1.mono (by simp))⟩
    · have hlen : ((ps.length : Int) == 0) = false := by simpa using hp
      go_enter Try.func108, Try.ntmps108
      go_wp2_with (go_at_call 54; refine (isAtom_any _ _ _ _ _).mono ?_; rintro e w1 ⟨rfl, hb1⟩; obtain ⟨hc1, hf1⟩ := bcell hb1; have hz1 := hb1.size; simp only [World.size_alloc] at hc1 hf1 hz1)
      have hsz : (Tree.node s ps).depth = Tree.depthL ps + 1 := by simp [Tree.depth, hp]
      have hB1 : Below w.heap.size w w1 := hB0.trans (hb1.mono (by simp))
      clear hc1 hf1 hb1 hB0
      have HS := Lib.hid hsz
      have hb1 := Tree.depthL_le_szL ps
      have hb2 := Tree.length_le_szL ps
      simp only [Tree.sz] at hb
      clear hsz
      go_loopw [3, 11] (fun m i wr => ∃ k : Nat, k ≤ ps.length ∧ i = .int .i64 k ∧ m = .int .i64 (Tree.depthL (ps.take k)) ∧ Below w.heap.size w wr) (fun _ i _ => ps.length - (intOf i).toNat)
      case atStart => exact ⟨0, Nat.zero_le _, rfl, by simp [Tree.depthL], hB1⟩
      case round =>
        obtain ⟨k, hk, rfl, rfl, hbr⟩ := hrel
        by_cases hlt : k < ps.length
        · obtain ⟨p, hp⟩ : ∃ p, ps[k]? = some p := ⟨ps[k], by simp [hlt]⟩
          obtain ⟨b, off, o', n', c', rfl, -, hx, hy, hrp⟩ := (RepS.keep (Keeps.below hbr) _ _ _ hs).partAt hp
          have h1 := Tree.depthL_take ps k p hp
          have h3 : p.sz ≤ n := by have := Tree.sz_part ps k p hp; simp only [Tree.sz] at hn; omega
          have h4 : p.sz ≤ 1000000000 := by have := Tree.sz_part ps k p hp; omega
          have h5 := Tree.depth_le_sz p
          have h2 := True.intro
          have HT := Lib.hid h1
          clear h1
          clear hp
          go_wp2_with (go_at_call 108; refine (ih _ A _ _ h3 (Rep.keep (Keeps.alloc _ _ _) _ _ hrp) (by omega)).mono ?_; rintro e w1 ⟨rfl, hb2⟩)
          go_roundw
          case rel => exact ⟨k + 1, by omega, by go_num, by rw [HT.out, ← max_ifN], (hbr.alloc hbr.size _).trans (hb2.mono (by have := hbr.size; simp; omega))⟩
          case measure => simp [intOf]; omega
        · have h7 := Tree.depthL_take_le ps k
          go_wp2
          go_ret
          obtain rfl : k = ps.length := by omega
          exact ⟨by rw [HS.out]; simp, hbr⟩


end Go.Proofs.Ytoihkjnfklogpaa

/- The contracts of the functions on forms, of the program and of the reference. -/
namespace Go.Proofs.Ytoihkjnfklogpaa
open Go.RowKit



def numOf (f : Tree → Nat) : Option Tree → Int | some t => (f t : Int) | none => -1

set_option maxRecDepth 100000 in
set_option maxHeartbeats 400000 in
theorem formSize_any (s : ByteArray) (w : World) (hs : s.size ≤ 1000000000) :
    Calls Try.prog 20 #[.string s] w fun e w' => e = .returned (.int .i64 (numOf Tree.size (parse s.data.toList))) ∧ Below w.heap.size w w' := by
  cases hp : parse s.data.toList with
  | none =>
    have HP := Lib.hid hp
    clear hp
    go_enter Try.func20, Try.ntmps20
    go_wp2_with fail
    refine (read_any _ _ hs).mono ?_
    rintro e w1 ⟨a, o, l, c, ok, t, rfl, hb1, hr, hok, -⟩
    rw [HP.out] at hok
    have hok' : ok = false := hok
    subst hok'
    clear hok
    go_wp2
    go_ret
    exact ⟨rfl, hb1.alloc hb1.size _⟩
  | some t' =>
    have hsz := parse_sz hp
    have HP := Lib.hid hp
    clear hp
    go_enter Try.func20, Try.ntmps20
    go_wp2_with fail
    refine (read_any _ _ hs).mono ?_
    rintro e w1 ⟨a, o, l, c, ok, t, rfl, hb1, hr, hok, ht⟩
    rw [HP.out] at hok
    have hok' : ok = true := hok
    subst hok'
    obtain rfl := ht _ HP.out
    clear hok ht
    go_wp2_with fail
    refine (size_any _ _ _ _ _ (Nat.le_refl _) (Rep.keep (Keeps.alloc _ _ _) _ _ hr) (by omega)).mono ?_
    rintro e w2 ⟨rfl, hb2⟩
    go_wp2
    go_ret
    exact ⟨rfl, (hb1.alloc hb1.size _).trans (hb2.mono (by have := hb1.size; simp; omega))⟩




end Go.Proofs.Ytoihkjnfklogpaa
