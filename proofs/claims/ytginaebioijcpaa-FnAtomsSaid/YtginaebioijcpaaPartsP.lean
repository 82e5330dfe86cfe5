/- The parts of a form are forms, and make it; lists of texts compared by the laws. -/
import Derived.Test.YtginaebioijcpaaFMake
import Derived.Test.YtginaebioijcpaaMake
namespace Go.Proofs.Ytginaebioijcpaa
open Go.RowKit

theorem part_depth {ps : List Tree} {p : Tree} (h : p ∈ ps) : p.depth ≤ Tree.depthL ps := by
  induction ps with
  | nil => simp at h
  | cons q ps ih =>
    simp only [Tree.depthL]
    rcases List.mem_cons.1 h with rfl | h
    · omega
    · have := ih h; omega

theorem good_mem {ps : List Tree} {p : Tree} (hg : Tree.goodL ps = true) (h : p ∈ ps) : p.good = true := by
  obtain ⟨k, hk⟩ := List.mem_iff_getElem?.1 h
  exact Tree.good_part ps k p hk hg

/-- A part of a form, read. -/
theorem part_reads {s : List UInt8} {a : ByteArray} {ps : List Tree} (h : parse s = some (.node a ps)) {p : Tree} (hp : p ∈ ps) : parse p.text = some p ∧ p.text.length ≤ 12000 := by
  obtain ⟨h1, h2, h3, h4⟩ := (parse_iff _ _).1 h
  have hne : ps ≠ [] := by rintro rfl; simp at hp
  have hg := (Tree.good_parts h2).1
  have hd : (Tree.node a ps).depth = Tree.depthL ps + 1 := by simp [Tree.depth, hne]
  have := part_depth hp
  have hl := text_part_le (a := a) hp
  rw [h1] at h4
  exact ⟨parse_text (good_mem hg hp) (by omega) (by omega), by omega⟩

theorem allOf_parts {ps : List Tree} (h : ∀ p ∈ ps, parse p.text = some p) : allOf (ps.map Tree.txt) = some ps := by
  induction ps with
  | nil => rfl
  | cons p ps ih =>
    rw [List.map_cons]
    exact allOf_cons.2 ⟨p, ps, rfl, by rw [Tree.txt, bts_data]; exact h p (by simp), ih fun q hq => h q (by simp [hq])⟩

theorem make_parts {s : ByteArray} {a : ByteArray} {ps : List Tree} (h : parse s.data.toList = some (.node a ps)) (hp : ps ≠ []) : makeF (ps.map Tree.txt) = some s := by
  obtain ⟨h1, h2, h3, h4⟩ := (parse_iff _ _).1 h
  have ha : a = ⟨#[]⟩ := by
    have := (Tree.good_parts h2).2
    have e : a.data.toList = [] := Classical.byContradiction fun e => hp (this.2 e)
    rw [bts_eq e]; rfl
  subst ha
  rw [makeF_some (allOf_parts fun p hq => (part_reads h hq).1), if_pos ⟨hp, by unfold Tree.fits; rw [← h1]; simp [h3]; simpa using h4⟩, Tree.txt, ← h1, bts_of]

theorem totS_parts {s : List UInt8} {a : ByteArray} {ps : List Tree} (h : parse s = some (.node a ps)) (hp : ps ≠ []) : totS (ps.map Tree.txt) ≤ 12000 := by
  have h1 : ∀ (qs : List Tree) (i : Nat), totS (qs.map Tree.txt) = (Tree.opened i qs).length := by
    intro qs
    induction qs with
    | nil => intro i; rfl
    | cons q qs ih =>
      intro i
      have := ih (i + 1)
      simp only [totS, List.map_cons, List.sum_cons, List.length_cons, Tree.opened, List.length_append] at *
      rw [Tree.txt, bts_size]; omega
  have h2 := parse_text_le h
  rw [text_of_opened a ps hp] at h2
  rw [h1 ps 0]
  simp at h2; omega
set_option maxRecDepth 100000 in
set_option maxHeartbeats 800000 in
theorem sameTexts_any (l m : List ByteArray) (o p : Option Addr) (n k c d : Nat) (w : World) (h : Strs w o n l) (g : Strs w p k m) (hn : n ≤ 1000000000) (hk : k ≤ 1000000000) :
    Calls Try.prog 29 #[.slice o n c, .slice p k d] w fun e w' => e = .returned (.bool (decide (l = m))) ∧ Below w.heap.size w w' := by
  have H := Lib.hid h
  have G := Lib.hid g
  have hl := Lib.hid h.1
  have hm := Lib.hid g.1
  clear h g
  by_cases hnk : n = k
  · subst hnk
    go_enter Try.func29, Try.ntmps29
    go_wp2
    go_loopw [5] (fun i wr => ∃ k : Nat, k ≤ n ∧ i = .int .i64 k ∧ Hid (l.take k = m.take k) ∧ Below w.heap.size w wr) (fun i _ => n - (intOf i).toNat)
    case atStart => exact ⟨0, Nat.zero_le _, rfl, rfl, Below.refl _ _⟩
    case round =>
      obtain ⟨k, hk, rfl, HN, hB⟩ := hrel
      by_cases hlt : k < n
      · obtain ⟨b, off, x, rfl, hx, hc⟩ := (H.out.keep hB).at hlt
        obtain ⟨b2, off2, y, rfl, hy, hc2⟩ := (G.out.keep hB).at hlt
        have HX := Lib.hid hx
        have HY := Lib.hid hy
        have hi0 : (0 : Int) ≤ k := by omega
        have hi1 : (k : Int) < n := by omega
        clear hx hy
        by_cases hs : x.toList = y.toList
        · have hb : (x.toList == y.toList) = true := by simpa using hs
          have hb' : (x.toList != y.toList) = false := by simp [hs]
          have HS : Hid (l.take (k + 1) = m.take (k + 1)) := by
            show _ = _
            have hlk : k < l.length := by rw [← hl.out]; exact hlt
            have hmk : k < m.length := by rw [← hm.out]; exact hlt
            rw [List.take_succ_eq_append_getElem hlk, List.take_succ_eq_append_getElem hmk, HN.out]
            have e1 := HX.out
            have e2 := HY.out
            rw [List.getElem?_eq_getElem hlk, Option.some.injEq] at e1
            rw [List.getElem?_eq_getElem hmk, Option.some.injEq] at e2
            rw [e1, e2]
            have : x = y := by rw [toList_inj] at hb; simpa using hb
            rw [this]
          clear hs
          go_wp2
          go_quiet (fail)
          go_wp2
          go_roundw
          case rel => exact ⟨k + 1, by omega, by go_num, HS, by first | exact hB.drew | exact hB | exact hB.drewN _⟩
          case measure => simp [intOf]; omega
        · have hb : (x.toList == y.toList) = false := by simpa using hs
          have hb' : (x.toList != y.toList) = true := by simp [hs]
          have HS : Hid (decide (l = m) = false) := by
            show _ = _
            simp only [decide_eq_false_iff_not]
            rintro rfl
            have e1 := HX.out
            have e2 := HY.out
            rw [e1] at e2
            exact hs (by rw [Option.some.inj e2])
          clear hs
          go_wp2
          go_quiet (fail)
          go_wp2
          go_ret
          exact ⟨ret_bool HS.out.symm, by first | exact hB.drew | exact hB | exact hB.drewN _⟩
      · have HS : Hid (decide (l = m) = true) := by
          show _ = _
          have e := HN.out
          rw [List.take_of_length_le (by rw [← hl.out]; omega), List.take_of_length_le (by rw [← hm.out]; omega)] at e
          simpa using e
        go_wp2
        go_ret
        exact ⟨ret_bool HS.out.symm, hB⟩
  · have hne : ((n : Int) != (k : Int)) = true := by simp; omega
    have HS : Hid (decide (l = m) = false) := by
      show _ = _
      simp only [decide_eq_false_iff_not]
      rintro rfl
      exact hnk (hl.out.trans hm.out.symm)
    go_enter Try.func29, Try.ntmps29
    go_wp2
    go_ret
    exact ⟨ret_bool HS.out.symm, Below.refl _ _⟩
end Go.Proofs.Ytginaebioijcpaa
