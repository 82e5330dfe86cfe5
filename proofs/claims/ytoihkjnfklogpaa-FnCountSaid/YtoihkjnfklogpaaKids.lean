/- The parts of a form that are expressions, of the program and of the reference. -/
import Derived.Test.YtoihkjnfklogpaaPlainE
import Derived.Test.YtoihkjnfklogpaaType
namespace Go.Proofs.Ytoihkjnfklogpaa
open Go.RowKit

theorem kids2_of {h : ByteArray} {c : List UInt8} (e : (h.toList == c) = true) : kids2 h.data.toList = kids2 c := by
  rw [Lib.toList_data] at e
  rw [eq_of_beq e]
theorem ne_of_beqF {h : ByteArray} {c : List UInt8} (e : (h.toList == c) = false) : h.data.toList ≠ c := by
  rw [Lib.toList_data] at e
  simpa using e

/-- What 'kids' hands back: the places, in a row of its own. -/
def KidsR (ks : List Nat) (w : World) (e : Ending) (w' : World) : Prop :=
  Below w.heap.size w w' ∧ ((ks = [] ∧ e = .returned (.slice none 0 0)) ∨ (ks ≠ [] ∧ ∃ b c, e = .returned (.slice (some ⟨b, 0, none⟩) ks.length c) ∧ w.heap.size ≤ b ∧ ks.length ≤ c ∧ ∀ (j k : Nat), ks[j]? = some k → w'.cell? ⟨b, j, none⟩ = some (.int .i64 (k : Int))))

set_option maxRecDepth 100000 in
set_option maxHeartbeats 1600000 in
theorem l2Kids_any (h : ByteArray) (w : World) :
    Calls Try.prog 73 #[.string h] w fun e w' => e = .returned (.tuple #[.int .i64 ((kids2 h.data.toList).1 : Int), .int .i64 ((kids2 h.data.toList).2 : Int)]) ∧ w = w' := by
  by_cases e1 : (h.toList == [43]) = true
  · have HK : Hid (kids2 h.data.toList = (1, 3)) := (kids2_of e1).trans (by decide)
    go_enter Try.func73, Try.ntmps73
    go_wp2
    exact bodyPost_ret (v := .tuple #[.int .i64 1, .int .i64 3]) (by simp [results, Try.results73, go_sem]) rfl ⟨by rw [HK.out]; rfl, rfl⟩
  have e1 : (h.toList == [43]) = false := by simpa using e1
  by_cases e2 : (h.toList == [45]) = true
  · have HK : Hid (kids2 h.data.toList = (1, 3)) := (kids2_of e2).trans (by decide)
    go_enter Try.func73, Try.ntmps73
    go_wp2
    exact bodyPost_ret (v := .tuple #[.int .i64 1, .int .i64 3]) (by simp [results, Try.results73, go_sem]) rfl ⟨by rw [HK.out]; rfl, rfl⟩
  have e2 : (h.toList == [45]) = false := by simpa using e2
  by_cases e3 : (h.toList == [42]) = true
  · have HK : Hid (kids2 h.data.toList = (1, 3)) := (kids2_of e3).trans (by decide)
    go_enter Try.func73, Try.ntmps73
    go_wp2
    exact bodyPost_ret (v := .tuple #[.int .i64 1, .int .i64 3]) (by simp [results, Try.results73, go_sem]) rfl ⟨by rw [HK.out]; rfl, rfl⟩
  have e3 : (h.toList == [42]) = false := by simpa using e3
  by_cases e4 : (h.toList == [99, 97, 108, 108]) = true
  · have HK : Hid (kids2 h.data.toList = (1, 3)) := (kids2_of e4).trans (by decide)
    go_enter Try.func73, Try.ntmps73
    go_wp2
    exact bodyPost_ret (v := .tuple #[.int .i64 1, .int .i64 3]) (by simp [results, Try.results73, go_sem]) rfl ⟨by rw [HK.out]; rfl, rfl⟩
  have e4 : (h.toList == [99, 97, 108, 108]) = false := by simpa using e4
  by_cases e5 : (h.toList == [112, 97, 105, 114]) = true
  · have HK : Hid (kids2 h.data.toList = (1, 3)) := (kids2_of e5).trans (by decide)
    go_enter Try.func73, Try.ntmps73
    go_wp2
    exact bodyPost_ret (v := .tuple #[.int .i64 1, .int .i64 3]) (by simp [results, Try.results73, go_sem]) rfl ⟨by rw [HK.out]; rfl, rfl⟩
  have e5 : (h.toList == [112, 97, 105, 114]) = false := by simpa using e5
  by_cases e6 : (h.toList == [105, 102]) = true
  · have HK : Hid (kids2 h.data.toList = (1, 4)) := (kids2_of e6).trans (by decide)
    go_enter Try.func73, Try.ntmps73
    go_wp2
    exact bodyPost_ret (v := .tuple #[.int .i64 1, .int .i64 4]) (by simp [results, Try.results73, go_sem]) rfl ⟨by rw [HK.out]; rfl, rfl⟩
  have e6 : (h.toList == [105, 102]) = false := by simpa using e6
  by_cases e7 : (h.toList == [108, 101, 116]) = true
  · have HK : Hid (kids2 h.data.toList = (2, 4)) := (kids2_of e7).trans (by decide)
    go_enter Try.func73, Try.ntmps73
    go_wp2
    exact bodyPost_ret (v := .tuple #[.int .i64 2, .int .i64 4]) (by simp [results, Try.results73, go_sem]) rfl ⟨by rw [HK.out]; rfl, rfl⟩
  have e7 : (h.toList == [108, 101, 116]) = false := by simpa using e7
  by_cases e8 : (h.toList == [102, 117, 110]) = true
  · have HK : Hid (kids2 h.data.toList = (5, 6)) := (kids2_of e8).trans (by decide)
    go_enter Try.func73, Try.ntmps73
    go_wp2
    exact bodyPost_ret (v := .tuple #[.int .i64 5, .int .i64 6]) (by simp [results, Try.results73, go_sem]) rfl ⟨by rw [HK.out]; rfl, rfl⟩
  have e8 : (h.toList == [102, 117, 110]) = false := by simpa using e8
  by_cases e9 : (h.toList == [102, 115, 116]) = true
  · have HK : Hid (kids2 h.data.toList = (1, 2)) := (kids2_of e9).trans (by decide)
    go_enter Try.func73, Try.ntmps73
    go_wp2
    exact bodyPost_ret (v := .tuple #[.int .i64 1, .int .i64 2]) (by simp [results, Try.results73, go_sem]) rfl ⟨by rw [HK.out]; rfl, rfl⟩
  have e9 : (h.toList == [102, 115, 116]) = false := by simpa using e9
  by_cases e10 : (h.toList == [115, 110, 100]) = true
  · have HK : Hid (kids2 h.data.toList = (1, 2)) := (kids2_of e10).trans (by decide)
    go_enter Try.func73, Try.ntmps73
    go_wp2
    exact bodyPost_ret (v := .tuple #[.int .i64 1, .int .i64 2]) (by simp [results, Try.results73, go_sem]) rfl ⟨by rw [HK.out]; rfl, rfl⟩
  have e10 : (h.toList == [115, 110, 100]) = false := by simpa using e10
  have HK : Hid (kids2 h.data.toList = (0, 0)) := kids2_other (ne_of_beqF e1) (ne_of_beqF e2) (ne_of_beqF e3) (ne_of_beqF e4) (ne_of_beqF e5) (ne_of_beqF e6) (ne_of_beqF e7) (ne_of_beqF e8) (ne_of_beqF e9) (ne_of_beqF e10)
  go_enter Try.func73, Try.ntmps73
  go_wp2
  exact bodyPost_ret (v := .tuple #[.int .i64 0, .int .i64 0]) (by simp [results, Try.results73, go_sem]) rfl ⟨by rw [HK.out]; rfl, rfl⟩

set_option maxRecDepth 100000 in
set_option maxHeartbeats 6400000 in
theorem kids_any (t : Tree) (A : Nat → Prop) (v : Value) (w : World) (hr : Rep w A t v) (hln : t.parts.length ≤ 1000000000) :
    Calls Try.prog 64 #[v] w (KidsR (kidsOf t.hd.data.toList t.parts.length) w) := by
  have HC := Lib.hid (fun v w hr => head_any t A v w hr hln)
  generalize t.hd = h at *
  obtain ⟨s, ps⟩ := t
  have hr' := hr
  simp only [Rep] at hr
  obtain ⟨o, l, c, rfl, hs, hcap⟩ := hr
  obtain rfl := hs.len
  have B0 := boxed0 w (.string s) (.slice o ps.length c) 46
  obtain ⟨x0, y0, hB0, hl0⟩ := boxed B0
  have hr0 := Rep.keep (Keeps.below hB0) _ _ hr'
  have HR := Lib.hid hr0
  clear hr' hr0 hs
  change Calls _ _ _ _ (KidsR (kidsOf h.data.toList ps.length) w)
  generalize hln' : ps.length = n at *
  by_cases e1 : (h.toList == [43]) = true
  · have hk := (kids2_of e1).trans (show kids2 [43] = (1, 3) by decide)
    by_cases hn : n = 3
    · have hlb : ((n : Int) == 3) = true := by simp; omega
      have HK : Hid (kidsOf h.data.toList n = [1, 2]) := by show _ = _; unfold kidsOf kidAt; rw [hk, hn]; rfl
      clear hk hn
      go_enter Try.func64, Try.ntmps64
      go_wp2_with fail
      refine (HC.out _ _ HR.out).mono ?_
      rintro e w1 ⟨rfl, hb1⟩
      have B1 := Below.next B0 hb1; obtain ⟨x1, y1, hB1, hl1⟩ := boxed B1; clear hb1
      have hnew := heap_alloc_new w1 (.cells #[.int .i64 1, .int .i64 2] 3)
      have HN := Lib.hid hnew
      clear hnew
      go_wp2
      exact bodyPost_ret (v := .slice (some ⟨w1.heap.size, 0, none⟩) 2 2) (by simp [results, Try.results64, go_sem]) rfl ⟨hB1.alloc hB1.size _, .inr ⟨by rw [HK.out]; simp, w1.heap.size, 2, by rw [HK.out]; rfl, hB1.size, by rw [HK.out]; exact Nat.le_refl _, by
        rw [HK.out]; intro j k hj
        match j, hj with
        | 0, hj => cases hj; simp only [World.cell?, HN.out]; rfl
        | 1, hj => cases hj; simp only [World.cell?, HN.out]; rfl
        | j + 2, hj => simp at hj⟩⟩
    · have hlb : ((n : Int) == 3) = false := by simp only [beq_eq_false_iff_ne, ne_eq]; omega
      have HK : Hid (kidsOf h.data.toList n = []) := kidsOf_none _ _ (by unfold kidAt; rw [hk]; exact if_neg hn)
      clear hk hn
      go_enter Try.func64, Try.ntmps64
      go_wp2_with fail
      refine (HC.out _ _ HR.out).mono ?_
      rintro e w1 ⟨rfl, hb1⟩
      have B1 := Below.next B0 hb1; obtain ⟨x1, y1, hB1, hl1⟩ := boxed B1; clear hb1
      go_wp2
      exact bodyPost_ret (v := .slice none 0 0) (by simp [results, Try.results64, go_sem]) rfl ⟨hB1, .inl ⟨HK.out, rfl⟩⟩
  have e1 : (h.toList == [43]) = false := by simpa using e1
  by_cases e2 : (h.toList == [45]) = true
  · have hk := (kids2_of e2).trans (show kids2 [45] = (1, 3) by decide)
    by_cases hn : n = 3
    · have hlb : ((n : Int) == 3) = true := by simp; omega
      have HK : Hid (kidsOf h.data.toList n = [1, 2]) := by show _ = _; unfold kidsOf kidAt; rw [hk, hn]; rfl
      clear hk hn
      go_enter Try.func64, Try.ntmps64
      go_wp2_with fail
      refine (HC.out _ _ HR.out).mono ?_
      rintro e w1 ⟨rfl, hb1⟩
      have B1 := Below.next B0 hb1; obtain ⟨x1, y1, hB1, hl1⟩ := boxed B1; clear hb1
      have hnew := heap_alloc_new w1 (.cells #[.int .i64 1, .int .i64 2] 3)
      have HN := Lib.hid hnew
      clear hnew
      go_wp2
      exact bodyPost_ret (v := .slice (some ⟨w1.heap.size, 0, none⟩) 2 2) (by simp [results, Try.results64, go_sem]) rfl ⟨hB1.alloc hB1.size _, .inr ⟨by rw [HK.out]; simp, w1.heap.size, 2, by rw [HK.out]; rfl, hB1.size, by rw [HK.out]; exact Nat.le_refl _, by
        rw [HK.out]; intro j k hj
        match j, hj with
        | 0, hj => cases hj; simp only [World.cell?, HN.out]; rfl
        | 1, hj => cases hj; simp only [World.cell?, HN.out]; rfl
        | j + 2, hj => simp at hj⟩⟩
    · have hlb : ((n : Int) == 3) = false := by simp only [beq_eq_false_iff_ne, ne_eq]; omega
      have HK : Hid (kidsOf h.data.toList n = []) := kidsOf_none _ _ (by unfold kidAt; rw [hk]; exact if_neg hn)
      clear hk hn
      go_enter Try.func64, Try.ntmps64
      go_wp2_with fail
      refine (HC.out _ _ HR.out).mono ?_
      rintro e w1 ⟨rfl, hb1⟩
      have B1 := Below.next B0 hb1; obtain ⟨x1, y1, hB1, hl1⟩ := boxed B1; clear hb1
      go_wp2
      exact bodyPost_ret (v := .slice none 0 0) (by simp [results, Try.results64, go_sem]) rfl ⟨hB1, .inl ⟨HK.out, rfl⟩⟩
  have e2 : (h.toList == [45]) = false := by simpa using e2
  by_cases e3 : (h.toList == [42]) = true
  · have hk := (kids2_of e3).trans (show kids2 [42] = (1, 3) by decide)
    by_cases hn : n = 3
    · have hlb : ((n : Int) == 3) = true := by simp; omega
      have HK : Hid (kidsOf h.data.toList n = [1, 2]) := by show _ = _; unfold kidsOf kidAt; rw [hk, hn]; rfl
      clear hk hn
      go_enter Try.func64, Try.ntmps64
      go_wp2_with fail
      refine (HC.out _ _ HR.out).mono ?_
      rintro e w1 ⟨rfl, hb1⟩
      have B1 := Below.next B0 hb1; obtain ⟨x1, y1, hB1, hl1⟩ := boxed B1; clear hb1
      have hnew := heap_alloc_new w1 (.cells #[.int .i64 1, .int .i64 2] 3)
      have HN := Lib.hid hnew
      clear hnew
      go_wp2
      exact bodyPost_ret (v := .slice (some ⟨w1.heap.size, 0, none⟩) 2 2) (by simp [results, Try.results64, go_sem]) rfl ⟨hB1.alloc hB1.size _, .inr ⟨by rw [HK.out]; simp, w1.heap.size, 2, by rw [HK.out]; rfl, hB1.size, by rw [HK.out]; exact Nat.le_refl _, by
        rw [HK.out]; intro j k hj
        match j, hj with
        | 0, hj => cases hj; simp only [World.cell?, HN.out]; rfl
        | 1, hj => cases hj; simp only [World.cell?, HN.out]; rfl
        | j + 2, hj => simp at hj⟩⟩
    · have hlb : ((n : Int) == 3) = false := by simp only [beq_eq_false_iff_ne, ne_eq]; omega
      have HK : Hid (kidsOf h.data.toList n = []) := kidsOf_none _ _ (by unfold kidAt; rw [hk]; exact if_neg hn)
      clear hk hn
      go_enter Try.func64, Try.ntmps64
      go_wp2_with fail
      refine (HC.out _ _ HR.out).mono ?_
      rintro e w1 ⟨rfl, hb1⟩
      have B1 := Below.next B0 hb1; obtain ⟨x1, y1, hB1, hl1⟩ := boxed B1; clear hb1
      go_wp2
      exact bodyPost_ret (v := .slice none 0 0) (by simp [results, Try.results64, go_sem]) rfl ⟨hB1, .inl ⟨HK.out, rfl⟩⟩
  have e3 : (h.toList == [42]) = false := by simpa using e3
  by_cases e4 : (h.toList == [99, 97, 108, 108]) = true
  · have hk := (kids2_of e4).trans (show kids2 [99, 97, 108, 108] = (1, 3) by decide)
    by_cases hn : n = 3
    · have hlb : ((n : Int) == 3) = true := by simp; omega
      have HK : Hid (kidsOf h.data.toList n = [1, 2]) := by show _ = _; unfold kidsOf kidAt; rw [hk, hn]; rfl
      clear hk hn
      go_enter Try.func64, Try.ntmps64
      go_wp2_with fail
      refine (HC.out _ _ HR.out).mono ?_
      rintro e w1 ⟨rfl, hb1⟩
      have B1 := Below.next B0 hb1; obtain ⟨x1, y1, hB1, hl1⟩ := boxed B1; clear hb1
      have hnew := heap_alloc_new w1 (.cells #[.int .i64 1, .int .i64 2] 3)
      have HN := Lib.hid hnew
      clear hnew
      go_wp2
      exact bodyPost_ret (v := .slice (some ⟨w1.heap.size, 0, none⟩) 2 2) (by simp [results, Try.results64, go_sem]) rfl ⟨hB1.alloc hB1.size _, .inr ⟨by rw [HK.out]; simp, w1.heap.size, 2, by rw [HK.out]; rfl, hB1.size, by rw [HK.out]; exact Nat.le_refl _, by
        rw [HK.out]; intro j k hj
        match j, hj with
        | 0, hj => cases hj; simp only [World.cell?, HN.out]; rfl
        | 1, hj => cases hj; simp only [World.cell?, HN.out]; rfl
        | j + 2, hj => simp at hj⟩⟩
    · have hlb : ((n : Int) == 3) = false := by simp only [beq_eq_false_iff_ne, ne_eq]; omega
      have HK : Hid (kidsOf h.data.toList n = []) := kidsOf_none _ _ (by unfold kidAt; rw [hk]; exact if_neg hn)
      clear hk hn
      go_enter Try.func64, Try.ntmps64
      go_wp2_with fail
      refine (HC.out _ _ HR.out).mono ?_
      rintro e w1 ⟨rfl, hb1⟩
      have B1 := Below.next B0 hb1; obtain ⟨x1, y1, hB1, hl1⟩ := boxed B1; clear hb1
      go_wp2
      exact bodyPost_ret (v := .slice none 0 0) (by simp [results, Try.results64, go_sem]) rfl ⟨hB1, .inl ⟨HK.out, rfl⟩⟩
  have e4 : (h.toList == [99, 97, 108, 108]) = false := by simpa using e4
  by_cases e5 : (h.toList == [112, 97, 105, 114]) = true
  · have hk := (kids2_of e5).trans (show kids2 [112, 97, 105, 114] = (1, 3) by decide)
    by_cases hn : n = 3
    · have hlb : ((n : Int) == 3) = true := by simp; omega
      have HK : Hid (kidsOf h.data.toList n = [1, 2]) := by show _ = _; unfold kidsOf kidAt; rw [hk, hn]; rfl
      clear hk hn
      go_enter Try.func64, Try.ntmps64
      go_wp2_with fail
      refine (HC.out _ _ HR.out).mono ?_
      rintro e w1 ⟨rfl, hb1⟩
      have B1 := Below.next B0 hb1; obtain ⟨x1, y1, hB1, hl1⟩ := boxed B1; clear hb1
      have hnew := heap_alloc_new w1 (.cells #[.int .i64 1, .int .i64 2] 3)
      have HN := Lib.hid hnew
      clear hnew
      go_wp2
      exact bodyPost_ret (v := .slice (some ⟨w1.heap.size, 0, none⟩) 2 2) (by simp [results, Try.results64, go_sem]) rfl ⟨hB1.alloc hB1.size _, .inr ⟨by rw [HK.out]; simp, w1.heap.size, 2, by rw [HK.out]; rfl, hB1.size, by rw [HK.out]; exact Nat.le_refl _, by
        rw [HK.out]; intro j k hj
        match j, hj with
        | 0, hj => cases hj; simp only [World.cell?, HN.out]; rfl
        | 1, hj => cases hj; simp only [World.cell?, HN.out]; rfl
        | j + 2, hj => simp at hj⟩⟩
    · have hlb : ((n : Int) == 3) = false := by simp only [beq_eq_false_iff_ne, ne_eq]; omega
      have HK : Hid (kidsOf h.data.toList n = []) := kidsOf_none _ _ (by unfold kidAt; rw [hk]; exact if_neg hn)
      clear hk hn
      go_enter Try.func64, Try.ntmps64
      go_wp2_with fail
      refine (HC.out _ _ HR.out).mono ?_
      rintro e w1 ⟨rfl, hb1⟩
      have B1 := Below.next B0 hb1; obtain ⟨x1, y1, hB1, hl1⟩ := boxed B1; clear hb1
      go_wp2
      exact bodyPost_ret (v := .slice none 0 0) (by simp [results, Try.results64, go_sem]) rfl ⟨hB1, .inl ⟨HK.out, rfl⟩⟩
  have e5 : (h.toList == [112, 97, 105, 114]) = false := by simpa using e5
  by_cases e6 : (h.toList == [105, 102]) = true
  · have hk := (kids2_of e6).trans (show kids2 [105, 102] = (1, 4) by decide)
    by_cases hn : n = 4
    · have hlb : ((n : Int) == 4) = true := by simp; omega
      have HK : Hid (kidsOf h.data.toList n = [1, 2, 3]) := by show _ = _; unfold kidsOf kidAt; rw [hk, hn]; rfl
      clear hk hn
      go_enter Try.func64, Try.ntmps64
      go_wp2_with fail
      refine (HC.out _ _ HR.out).mono ?_
      rintro e w1 ⟨rfl, hb1⟩
      have B1 := Below.next B0 hb1; obtain ⟨x1, y1, hB1, hl1⟩ := boxed B1; clear hb1
      have hnew := heap_alloc_new w1 (.cells #[.int .i64 1, .int .i64 2, .int .i64 3] 3)
      have HN := Lib.hid hnew
      clear hnew
      go_wp2
      exact bodyPost_ret (v := .slice (some ⟨w1.heap.size, 0, none⟩) 3 3) (by simp [results, Try.results64, go_sem]) rfl ⟨hB1.alloc hB1.size _, .inr ⟨by rw [HK.out]; simp, w1.heap.size, 3, by rw [HK.out]; rfl, hB1.size, by rw [HK.out]; exact Nat.le_refl _, by
        rw [HK.out]; intro j k hj
        match j, hj with
        | 0, hj => cases hj; simp only [World.cell?, HN.out]; rfl
        | 1, hj => cases hj; simp only [World.cell?, HN.out]; rfl
        | 2, hj => cases hj; simp only [World.cell?, HN.out]; rfl
        | j + 3, hj => simp at hj⟩⟩
    · have hlb : ((n : Int) == 4) = false := by simp only [beq_eq_false_iff_ne, ne_eq]; omega
      have HK : Hid (kidsOf h.data.toList n = []) := kidsOf_none _ _ (by unfold kidAt; rw [hk]; exact if_neg hn)
      clear hk hn
      go_enter Try.func64, Try.ntmps64
      go_wp2_with fail
      refine (HC.out _ _ HR.out).mono ?_
      rintro e w1 ⟨rfl, hb1⟩
      have B1 := Below.next B0 hb1; obtain ⟨x1, y1, hB1, hl1⟩ := boxed B1; clear hb1
      go_wp2
      exact bodyPost_ret (v := .slice none 0 0) (by simp [results, Try.results64, go_sem]) rfl ⟨hB1, .inl ⟨HK.out, rfl⟩⟩
  have e6 : (h.toList == [105, 102]) = false := by simpa using e6
  by_cases e7 : (h.toList == [108, 101, 116]) = true
  · have hk := (kids2_of e7).trans (show kids2 [108, 101, 116] = (2, 4) by decide)
    by_cases hn : n = 4
    · have hlb : ((n : Int) == 4) = true := by simp; omega
      have HK : Hid (kidsOf h.data.toList n = [2, 3]) := by show _ = _; unfold kidsOf kidAt; rw [hk, hn]; rfl
      clear hk hn
      go_enter Try.func64, Try.ntmps64
      go_wp2_with fail
      refine (HC.out _ _ HR.out).mono ?_
      rintro e w1 ⟨rfl, hb1⟩
      have B1 := Below.next B0 hb1; obtain ⟨x1, y1, hB1, hl1⟩ := boxed B1; clear hb1
      have hnew := heap_alloc_new w1 (.cells #[.int .i64 2, .int .i64 3] 3)
      have HN := Lib.hid hnew
      clear hnew
      go_wp2
      exact bodyPost_ret (v := .slice (some ⟨w1.heap.size, 0, none⟩) 2 2) (by simp [results, Try.results64, go_sem]) rfl ⟨hB1.alloc hB1.size _, .inr ⟨by rw [HK.out]; simp, w1.heap.size, 2, by rw [HK.out]; rfl, hB1.size, by rw [HK.out]; exact Nat.le_refl _, by
        rw [HK.out]; intro j k hj
        match j, hj with
        | 0, hj => cases hj; simp only [World.cell?, HN.out]; rfl
        | 1, hj => cases hj; simp only [World.cell?, HN.out]; rfl
        | j + 2, hj => simp at hj⟩⟩
    · have hlb : ((n : Int) == 4) = false := by simp only [beq_eq_false_iff_ne, ne_eq]; omega
      have HK : Hid (kidsOf h.data.toList n = []) := kidsOf_none _ _ (by unfold kidAt; rw [hk]; exact if_neg hn)
      clear hk hn
      go_enter Try.func64, Try.ntmps64
      go_wp2_with fail
      refine (HC.out _ _ HR.out).mono ?_
      rintro e w1 ⟨rfl, hb1⟩
      have B1 := Below.next B0 hb1; obtain ⟨x1, y1, hB1, hl1⟩ := boxed B1; clear hb1
      go_wp2
      exact bodyPost_ret (v := .slice none 0 0) (by simp [results, Try.results64, go_sem]) rfl ⟨hB1, .inl ⟨HK.out, rfl⟩⟩
  have e7 : (h.toList == [108, 101, 116]) = false := by simpa using e7
  by_cases e8 : (h.toList == [102, 117, 110]) = true
  · have hk := (kids2_of e8).trans (show kids2 [102, 117, 110] = (5, 6) by decide)
    by_cases hn : n = 6
    · have hlb : ((n : Int) == 6) = true := by simp; omega
      have HK : Hid (kidsOf h.data.toList n = [5]) := by show _ = _; unfold kidsOf kidAt; rw [hk, hn]; rfl
      clear hk hn
      go_enter Try.func64, Try.ntmps64
      go_wp2_with fail
      refine (HC.out _ _ HR.out).mono ?_
      rintro e w1 ⟨rfl, hb1⟩
      have B1 := Below.next B0 hb1; obtain ⟨x1, y1, hB1, hl1⟩ := boxed B1; clear hb1
      have hnew := heap_alloc_new w1 (.cells #[.int .i64 5] 3)
      have HN := Lib.hid hnew
      clear hnew
      go_wp2
      exact bodyPost_ret (v := .slice (some ⟨w1.heap.size, 0, none⟩) 1 1) (by simp [results, Try.results64, go_sem]) rfl ⟨hB1.alloc hB1.size _, .inr ⟨by rw [HK.out]; simp, w1.heap.size, 1, by rw [HK.out]; rfl, hB1.size, by rw [HK.out]; exact Nat.le_refl _, by
        rw [HK.out]; intro j k hj
        match j, hj with
        | 0, hj => cases hj; simp only [World.cell?, HN.out]; rfl
        | j + 1, hj => simp at hj⟩⟩
    · have hlb : ((n : Int) == 6) = false := by simp only [beq_eq_false_iff_ne, ne_eq]; omega
      have HK : Hid (kidsOf h.data.toList n = []) := kidsOf_none _ _ (by unfold kidAt; rw [hk]; exact if_neg hn)
      clear hk hn
      go_enter Try.func64, Try.ntmps64
      go_wp2_with fail
      refine (HC.out _ _ HR.out).mono ?_
      rintro e w1 ⟨rfl, hb1⟩
      have B1 := Below.next B0 hb1; obtain ⟨x1, y1, hB1, hl1⟩ := boxed B1; clear hb1
      go_wp2
      exact bodyPost_ret (v := .slice none 0 0) (by simp [results, Try.results64, go_sem]) rfl ⟨hB1, .inl ⟨HK.out, rfl⟩⟩
  have e8 : (h.toList == [102, 117, 110]) = false := by simpa using e8
  by_cases e9 : (h.toList == [102, 115, 116]) = true
  · have hk := (kids2_of e9).trans (show kids2 [102, 115, 116] = (1, 2) by decide)
    by_cases hn : n = 2
    · have hlb : ((n : Int) == 2) = true := by simp; omega
      have HK : Hid (kidsOf h.data.toList n = [1]) := by show _ = _; unfold kidsOf kidAt; rw [hk, hn]; rfl
      clear hk hn
      go_enter Try.func64, Try.ntmps64
      go_wp2_with fail
      refine (HC.out _ _ HR.out).mono ?_
      rintro e w1 ⟨rfl, hb1⟩
      have B1 := Below.next B0 hb1; obtain ⟨x1, y1, hB1, hl1⟩ := boxed B1; clear hb1
      have hnew := heap_alloc_new w1 (.cells #[.int .i64 1] 3)
      have HN := Lib.hid hnew
      clear hnew
      go_wp2
      exact bodyPost_ret (v := .slice (some ⟨w1.heap.size, 0, none⟩) 1 1) (by simp [results, Try.results64, go_sem]) rfl ⟨hB1.alloc hB1.size _, .inr ⟨by rw [HK.out]; simp, w1.heap.size, 1, by rw [HK.out]; rfl, hB1.size, by rw [HK.out]; exact Nat.le_refl _, by
        rw [HK.out]; intro j k hj
        match j, hj with
        | 0, hj => cases hj; simp only [World.cell?, HN.out]; rfl
        | j + 1, hj => simp at hj⟩⟩
    · have hlb : ((n : Int) == 2) = false := by simp only [beq_eq_false_iff_ne, ne_eq]; omega
      have HK : Hid (kidsOf h.data.toList n = []) := kidsOf_none _ _ (by unfold kidAt; rw [hk]; exact if_neg hn)
      clear hk hn
      go_enter Try.func64, Try.ntmps64
      go_wp2_with fail
      refine (HC.out _ _ HR.out).mono ?_
      rintro e w1 ⟨rfl, hb1⟩
      have B1 := Below.next B0 hb1; obtain ⟨x1, y1, hB1, hl1⟩ := boxed B1; clear hb1
      go_wp2
      exact bodyPost_ret (v := .slice none 0 0) (by simp [results, Try.results64, go_sem]) rfl ⟨hB1, .inl ⟨HK.out, rfl⟩⟩
  have e9 : (h.toList == [102, 115, 116]) = false := by simpa using e9
  by_cases e10 : (h.toList == [115, 110, 100]) = true
  · have hk := (kids2_of e10).trans (show kids2 [115, 110, 100] = (1, 2) by decide)
    by_cases hn : n = 2
    · have hlb : ((n : Int) == 2) = true := by simp; omega
      have HK : Hid (kidsOf h.data.toList n = [1]) := by show _ = _; unfold kidsOf kidAt; rw [hk, hn]; rfl
      clear hk hn
      go_enter Try.func64, Try.ntmps64
      go_wp2_with fail
      refine (HC.out _ _ HR.out).mono ?_
      rintro e w1 ⟨rfl, hb1⟩
      have B1 := Below.next B0 hb1; obtain ⟨x1, y1, hB1, hl1⟩ := boxed B1; clear hb1
      have hnew := heap_alloc_new w1 (.cells #[.int .i64 1] 3)
      have HN := Lib.hid hnew
      clear hnew
      go_wp2
      exact bodyPost_ret (v := .slice (some ⟨w1.heap.size, 0, none⟩) 1 1) (by simp [results, Try.results64, go_sem]) rfl ⟨hB1.alloc hB1.size _, .inr ⟨by rw [HK.out]; simp, w1.heap.size, 1, by rw [HK.out]; rfl, hB1.size, by rw [HK.out]; exact Nat.le_refl _, by
        rw [HK.out]; intro j k hj
        match j, hj with
        | 0, hj => cases hj; simp only [World.cell?, HN.out]; rfl
        | j + 1, hj => simp at hj⟩⟩
    · have hlb : ((n : Int) == 2) = false := by simp only [beq_eq_false_iff_ne, ne_eq]; omega
      have HK : Hid (kidsOf h.data.toList n = []) := kidsOf_none _ _ (by unfold kidAt; rw [hk]; exact if_neg hn)
      clear hk hn
      go_enter Try.func64, Try.ntmps64
      go_wp2_with fail
      refine (HC.out _ _ HR.out).mono ?_
      rintro e w1 ⟨rfl, hb1⟩
      have B1 := Below.next B0 hb1; obtain ⟨x1, y1, hB1, hl1⟩ := boxed B1; clear hb1
      go_wp2
      exact bodyPost_ret (v := .slice none 0 0) (by simp [results, Try.results64, go_sem]) rfl ⟨hB1, .inl ⟨HK.out, rfl⟩⟩
  have e10 : (h.toList == [115, 110, 100]) = false := by simpa using e10
  have HK : Hid (kidsOf h.data.toList n = []) := kidsOf_none _ _ (by unfold kidAt; rw [kids2_other (ne_of_beqF e1) (ne_of_beqF e2) (ne_of_beqF e3) (ne_of_beqF e4) (ne_of_beqF e5) (ne_of_beqF e6) (ne_of_beqF e7) (ne_of_beqF e8) (ne_of_beqF e9) (ne_of_beqF e10)]; split <;> rfl)
  go_enter Try.func64, Try.ntmps64
  go_wp2_with fail
  refine (HC.out _ _ HR.out).mono ?_
  rintro e w1 ⟨rfl, hb1⟩
  have B1 := Below.next B0 hb1; obtain ⟨x1, y1, hB1, hl1⟩ := boxed B1; clear hb1
  go_wp2
  exact bodyPost_ret (v := .slice none 0 0) (by simp [results, Try.results64, go_sem]) rfl ⟨hB1, .inl ⟨HK.out, rfl⟩⟩
end Go.Proofs.Ytoihkjnfklogpaa
