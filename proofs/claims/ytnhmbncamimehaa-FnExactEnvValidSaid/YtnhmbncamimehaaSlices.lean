/- Slices of texts that come in: their sizes and copies, as the laws make them. -/
import Derived.Test.YtnhmbncamimehaaFMake
import Derived.Laws.OwnMore
import Derived.SliceStrings
namespace Go.Proofs.Ytnhmbncamimehaa
open Go.RowKit

/-- A slice of texts as it comes in. -/
def Texts (w : World) (a : Option Addr) (l c : Nat) : Prop := l ≤ c ∧ c ≤ maxLen ∧ ∃ ss, Strs w a l ss ∧ ∀ s ∈ ss, s.size ≤ maxLen

theorem Texts.of_row {w : World} {x : Addr} {l c : Nat} {ss : List ByteArray} {b : Bool} (hl : l ≤ c) (hm : c ≤ maxLen) (hss : ss.length = if b then c else l)
    (hcell : ∀ i, i < ss.length → w.cell? (x.add i) = some (.string (ss.getD i ByteArray.empty))) (hw : ∀ s ∈ ss, s.size ≤ maxLen) : Texts w (some x) l c := by
  have hll : l ≤ ss.length := by rw [hss]; split <;> omega
  refine ⟨hl, hm, ss.take l, ⟨by simp; omega, ?_⟩, fun s hs => hw s (List.mem_of_mem_take hs)⟩
  by_cases h0 : l = 0
  · subst h0; exact .inl (by simp)
  · obtain ⟨b, off, spot⟩ := x
    have hc := hcell 0 (by omega)
    have hspot : spot = none := by simpa [Addr.add] using World.cell?_spot hc
    subst hspot
    refine .inr ⟨b, off, rfl, fun i s hi => ?_⟩
    have hil : i < l := by
      have := (List.getElem?_eq_some_iff.1 hi).1
      simp at this; omega
    have hci := hcell i (by omega)
    rw [List.getElem?_take_of_lt hil] at hi
    rw [List.getD_eq_getElem?_getD, hi, Addr.add_lit] at hci
    exact hci

set_option maxRecDepth 100000 in
set_option maxHeartbeats 800000 in
theorem szStringS_left (l : List ByteArray) (o : Option Addr) (n c z : Nat) (w : World) (h : Strs w o n l) (hz : z ≤ 2000000) (hn : n ≤ maxLen) (hw : ∀ s ∈ l, s.size ≤ maxLen) :
    Calls Try.prog 15 #[.slice o n c, .int .i64 z] w fun e w' => ∃ r : Int, e = .returned (.int .i64 r) ∧ (r < 0 ∨ (totS l ≤ z ∧ ∃ m : Nat, r = m ∧ m ≤ z)) ∧ w = w' := by
  unfold maxLen at hn hw
  obtain rfl : n = l.length := h.1
  have H := Lib.hid h
  have HW := Lib.hid hw
  clear h hw
  by_cases hlt : (z : Int) - (l.length : Int) < 0
  · go_enter Try.func15, Try.ntmps15
    go_wp2
    go_ret
    exact ⟨-1, rfl, .inl (by decide), rfl⟩
  · go_enter Try.func15, Try.ntmps15
    go_wp2
    go_loop [1, 5] (fun m i => ∃ k : Nat, k ≤ l.length ∧ i = .int .i64 k ∧ ∃ m' : Nat, m = .int .i64 m' ∧ m' + ((l.take k).map ByteArray.size).sum + l.length = z) (fun _ i => l.length - (intOf i).toNat)
    case atStart => exact ⟨0, Nat.zero_le _, rfl, z - l.length, by congr 1; omega, by simp; omega⟩
    case round =>
      obtain ⟨k, hk, rfl, m', rfl, hm⟩ := hrel
      by_cases hkl : k < l.length
      · obtain ⟨b, off, s, rfl, hls, hcs⟩ := H.out.at hkl
        have hss := HW.out s (List.mem_of_getElem? hls)
        have HT : Hid (((l.take (k + 1)).map ByteArray.size).sum = ((l.take k).map ByteArray.size).sum + s.size) := by show _ = _; rw [List.take_add_one, hls]; simp
        have hi0 : (0 : Int) ≤ (k : Int) := Int.natCast_nonneg _
        have hi1 : (k : Int) < (l.length : Int) := by omega
        clear hls
        by_cases hlt2 : (m' : Int) - (s.size : Int) < 0
        · go_wp2
          go_ret
          exact ⟨-1, rfl, .inl (by decide), rfl⟩
        · go_wp2
          go_round
          case rel => exact ⟨k + 1, by omega, by go_num, m' - s.size, by congr 1; omega, by rw [HT.out]; omega⟩
          case measure => simp [intOf]; omega
      · have hkn : k = l.length := by omega
        have HF : Hid (totS l ≤ z) := by
          show _ ≤ _
          rw [hkn, List.take_length] at hm
          unfold totS; omega
        go_wp2
        go_ret
        exact ⟨(m' : Int), rfl, .inr ⟨HF.out, m', rfl, by omega⟩, rfl⟩

theorem szStringS_any (l : List ByteArray) (o : Option Addr) (n c z : Nat) (w : World) (h : Strs w o n l) (hz : z ≤ 2000000) (hn : n ≤ maxLen) (hw : ∀ s ∈ l, s.size ≤ maxLen) :
    Calls Try.prog 15 #[.slice o n c, .int .i64 z] w fun e w' => ∃ r : Int, e = .returned (.int .i64 r) ∧ (r < 0 ∨ totS l ≤ z) ∧ w = w' :=
  (szStringS_left l o n c z w h hz hn hw).mono fun e w' ⟨r, h1, h2, h3⟩ => ⟨r, h1, h2.imp id fun h => h.1, h3⟩

theorem fillS_step (l : List ByteArray) (e : ByteArray) (k : Nat) (s : ByteArray) (h : l[k]? = some s) : (l.take k ++ List.replicate (l.length - k) e).set k s = l.take (k + 1) ++ List.replicate (l.length - (k + 1)) e := by
  have hk := (List.getElem?_eq_some_iff.1 h).1
  have h1 : l.length - k = (l.length - (k + 1)) + 1 := by omega
  rw [h1, List.replicate_succ, List.set_append_right _ _ (by simp; omega), List.take_add_one, h]
  simp
  have : k - min k l.length = 0 := by omega
  rw [this]; simp

set_option maxRecDepth 100000 in
set_option maxHeartbeats 1600000 in
theorem toStringS_any (l : List ByteArray) (o : Option Addr) (n c : Nat) (w : World) (h : Strs w o n l) (hn : n ≤ 2000000) :
    Calls Try.prog 17 #[.slice o n c] w fun e w' => ∃ v, e = .returned v ∧ SRow w' w.heap.size v l ∧ Below w.heap.size w w' := by
  obtain rfl : n = l.length := h.1
  obtain ⟨i0, hi, hz0, hz1, hz2⟩ := info_parts infoStr
  obtain ⟨w1, hmk, hown, hg⟩ := run_makeSlice_full (P := Try.prog) w w.heap.size 22 9 i0 _ 1 Try.underlying22 hi hz0 hz1 .i64 .i64 l.length (by omega) (by rw [hz2]; omega) (by simp only [maxLen]; omega) (Nat.le_refl _)
  have hrow : SRow w1 w.heap.size (.slice (some ⟨w.heap.size, 0, none⟩) l.length l.length) (List.replicate l.length ⟨#[]⟩) := by
    unfold SRow
    rw [List.length_replicate, List.map_replicate]
    rw [show (Value.string ⟨#[]⟩).cells = #[.string ⟨#[]⟩] from rfl, Nat.mul_one, toList_madeCells_one] at hown
    exact hown
  have hb1 : Below w.heap.size w w1 := (Below.refl _ _).grown hg (Nat.le_refl _) (fun k h => by cases h)
  have H := Lib.hid h
  have HR := Lib.hid hrow
  clear h hrow hown
  go_enter Try.func17, Try.ntmps17
  go_wp2
  go_loopw [4] (fun i wr => ∃ k : Nat, k ≤ l.length ∧ i = .int .i64 k ∧ Hid (SRow wr w.heap.size (.slice (some ⟨w.heap.size, 0, none⟩) l.length l.length) (l.take k ++ List.replicate (l.length - k) ⟨#[]⟩)) ∧ Below w.heap.size w wr) (fun i _ => l.length - (intOf i).toNat)
  case atStart => exact ⟨0, Nat.zero_le _, rfl, by simpa using HR, hb1⟩
  case round =>
    obtain ⟨k, hk, rfl, HRR, hbr⟩ := hrel
    have hll : l.length = (l.take k ++ List.replicate (l.length - k) (⟨#[]⟩ : ByteArray)).length := by simp; omega
    by_cases hlt : k < l.length
    · obtain ⟨b, off, s, rfl, hls, hcs⟩ := (H.out.keep hbr).at hlt
      have HST : Hid (SRow (wr.setCell ⟨w.heap.size, k, none⟩ (.string s)) w.heap.size (.slice (some ⟨w.heap.size, 0, none⟩) l.length l.length) (l.take (k + 1) ++ List.replicate (l.length - (k + 1)) ⟨#[]⟩)) := by
        have := HRR.out.store hll k s
        rw [fillS_step l _ k s hls] at this
        exact this
      have hf := HRR.out.frozen hll k
      obtain ⟨b', off', x, ho, hxl, hcx⟩ := HRR.out.read.at (k := k) hlt
      simp only [Option.some.injEq, Addr.mk.injEq, and_true] at ho
      obtain ⟨rfl, rfl⟩ := ho
      simp only [Nat.zero_add] at hcx
      have hlw := lt_of_cell hcx
      have hi0 : (0 : Int) ≤ (k : Int) := Int.natCast_nonneg _
      have hi1 : (k : Int) < (l.length : Int) := by omega
      clear hls hxl hll
      go_wp2
      go_roundw
      case rel => exact ⟨k + 1, by omega, by go_num, HST, hbr.setCell (by simp) _⟩
      case measure => simp [intOf]; omega
    · have hkn : k = l.length := by omega
      have HF : Hid (SRow wr w.heap.size (.slice (some ⟨w.heap.size, 0, none⟩) l.length l.length) l) := by
        have := HRR.out
        rw [hkn, List.take_length, Nat.sub_self, List.replicate_zero, List.append_nil] at this
        exact this
      clear hll
      go_wp2
      go_ret
      exact ⟨_, rfl, HF.out, hbr⟩
end Go.Proofs.Ytnhmbncamimehaa
