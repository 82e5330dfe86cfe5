/- Drawing blocks: registers and instructions. -/
import Derived.Test.YtpamfjbgnpmmoaaGreatDoorDrawS
namespace Go.Proofs.YtpamfjbgnpmmoaaGreatDoor
open Go.RowKit

set_option maxRecDepth 100000 in
set_option maxHeartbeats 800000 in
theorem l92Reg_any {w0 W : World} {rb p K : Nat} (h : St w0 rb p K W) (hp : p + K ≤ 1000000) : Calls Tryz.prog 24 #[.pointer (some ⟨rb, 0, none⟩)] W fun e w' => ∃ s, e = .returned (.string s) ∧ s.size ≤ 10 ∧ Hid (St w0 rb p (K + 1) w') := by
  go_enter Tryz.func24, Tryz.ntmps24
  go_wp2_with fail
  refine (st_pick h (by omega) (by omega) (by omega)).mono ?_
  rintro e w3 ⟨z, rfl, hz0, hz1, H3⟩
  obtain ⟨k, rfl⟩ := Int.eq_ofNat_of_zero_le hz0
  have hk : (bts (decL k)).size ≤ 10 := by have := decL_len k; rw [Lib.size_eq]; show (decL k).length ≤ 10; omega
  go_wp2_with fail
  refine (l6Dec_any k _ (by omega)).mono ?_
  rintro e w4 ⟨rfl, hb4⟩
  have H4 : Hid (St w0 rb p (K + 1) w4) := H3.out.below hb4
  clear hb4
  generalize bts (decL k) = q at *
  go_wp2
  go_ret
  exact ⟨_, rfl, hk, H4⟩

set_option maxRecDepth 100000 in
set_option maxHeartbeats 6400000 in
theorem l92Instr_any {w0 W : World} {rb p K : Nat} (h : St w0 rb p K W) (hp : p + K ≤ 100000) : Calls Tryz.prog 23 #[.pointer (some ⟨rb, 0, none⟩)] W fun e w' => ∃ s, e = .returned (.string s) ∧ s.size ≤ 200 ∧ Hid (St w0 rb p (K + 5) w') := by
  go_enter Tryz.func23, Tryz.ntmps23
  go_wp2_with fail
  refine (l92Reg_any h (by omega)).mono ?_
  rintro e w1 ⟨a, rfl, ha, H1⟩
  go_wp2_with fail
  refine (l92Reg_any H1.out (by omega)).mono ?_
  rintro e w2 ⟨b, rfl, hb, H2⟩
  go_wp2_with fail
  refine (l92Reg_any H2.out (by omega)).mono ?_
  rintro e w3 ⟨c, rfl, hc, H3⟩
  go_wp2_with fail
  refine (st_pick H3.out (by omega) (by omega) (by omega)).mono ?_
  rintro e w4 ⟨z, rfl, hz0, hz1, H4⟩
  clear H1 H2 H3 h
  by_cases h0 : z = 0
  · subst h0
    have hlt_w4 := H4.out.lt
    have hP := st_of (P := fun s => s.size ≤ 40) (b := w4.heap.size) (n := 4) (cap := 4) (H4.out.alloc (.cells #[.string ⟨#[48]⟩, .string ⟨#[49]⟩, .string ⟨#[45, 55]⟩, .string ⟨#[57, 57, 57]⟩] 9)) (by omega) (by omega) (by omega) (by omega) (by
      refine textRow_new w4 _ _ ?_
      (repeat (first | exact trivial | (refine ⟨⟨_, rfl, ?_⟩, ?_⟩; · first | assumption | decide | (simp only [ByteArray.size]; decide) | (simp only [ByteArray.size_append, size_lit, List.size_toArray, List.length_cons, List.length_nil]; omega)))))
    go_wp2_with fail
    refine hP.mono ?_
    rintro e w5 ⟨s5, rfl, hs5, Hw5⟩
    clear hP
    have HX := Hw5
    go_wp2
    go_ret
    exact ⟨_, rfl, by first | omega | (simp only [ByteArray.size_append, size_lit, List.size_toArray, List.length_cons, List.length_nil]; omega), Lib.hid (HX.out.more (by omega))⟩
  by_cases h1 : z = 1
  · subst h1
    have hlt_w4 := H4.out.lt
    have hP := st_of (P := fun s => s.size ≤ 40) (b := w4.heap.size) (n := 4) (cap := 4) (H4.out.alloc (.cells #[.string ⟨#[48]⟩, .string ⟨#[49]⟩, .string ⟨#[45, 55]⟩, .string ⟨#[57, 57, 57]⟩] 9)) (by omega) (by omega) (by omega) (by omega) (by
      refine textRow_new w4 _ _ ?_
      (repeat (first | exact trivial | (refine ⟨⟨_, rfl, ?_⟩, ?_⟩; · first | assumption | decide | (simp only [ByteArray.size]; decide) | (simp only [ByteArray.size_append, size_lit, List.size_toArray, List.length_cons, List.length_nil]; omega)))))
    go_wp2_with fail
    refine hP.mono ?_
    rintro e w5 ⟨s5, rfl, hs5, Hw5⟩
    clear hP
    have HX := Hw5
    go_wp2
    go_ret
    exact ⟨_, rfl, by first | omega | (simp only [ByteArray.size_append, size_lit, List.size_toArray, List.length_cons, List.length_nil]; omega), Lib.hid (HX.out.more (by omega))⟩
  by_cases h2 : z = 2
  · subst h2
    have HX := H4
    go_wp2
    go_ret
    exact ⟨_, rfl, by first | omega | (simp only [ByteArray.size_append, size_lit, List.size_toArray, List.length_cons, List.length_nil]; omega), Lib.hid (HX.out.more (by omega))⟩
  by_cases h3 : z = 3
  · subst h3
    have hlt_w4 := H4.out.lt
    have hP := st_of (P := fun s => s.size ≤ 40) (b := w4.heap.size) (n := 3) (cap := 3) (H4.out.alloc (.cells #[.string ⟨#[97, 100, 100]⟩, .string ⟨#[115, 117, 98]⟩, .string ⟨#[109, 117, 108]⟩] 9)) (by omega) (by omega) (by omega) (by omega) (by
      refine textRow_new w4 _ _ ?_
      (repeat (first | exact trivial | (refine ⟨⟨_, rfl, ?_⟩, ?_⟩; · first | assumption | decide | (simp only [ByteArray.size]; decide) | (simp only [ByteArray.size_append, size_lit, List.size_toArray, List.length_cons, List.length_nil]; omega)))))
    go_wp2_with fail
    refine hP.mono ?_
    rintro e w5 ⟨s5, rfl, hs5, Hw5⟩
    clear hP
    have HX := Hw5
    go_wp2
    go_ret
    exact ⟨_, rfl, by first | omega | (simp only [ByteArray.size_append, size_lit, List.size_toArray, List.length_cons, List.length_nil]; omega), Lib.hid (HX.out.more (by omega))⟩
  by_cases h4 : z = 4
  · subst h4
    have HX := H4
    go_wp2
    go_ret
    exact ⟨_, rfl, by first | omega | (simp only [ByteArray.size_append, size_lit, List.size_toArray, List.length_cons, List.length_nil]; omega), Lib.hid (HX.out.more (by omega))⟩
  by_cases h5 : z = 5
  · subst h5
    have HX := H4
    go_wp2
    go_ret
    exact ⟨_, rfl, by first | omega | (simp only [ByteArray.size_append, size_lit, List.size_toArray, List.length_cons, List.length_nil]; omega), Lib.hid (HX.out.more (by omega))⟩
  by_cases h6 : z = 6
  · subst h6
    have hlt_w4 := H4.out.lt
    have hP := st_of (P := fun s => s.size ≤ 40) (b := w4.heap.size) (n := 3) (cap := 3) (H4.out.alloc (.cells #[.string ⟨#[48]⟩, .string ⟨#[49]⟩, .string ⟨#[50]⟩] 9)) (by omega) (by omega) (by omega) (by omega) (by
      refine textRow_new w4 _ _ ?_
      (repeat (first | exact trivial | (refine ⟨⟨_, rfl, ?_⟩, ?_⟩; · first | assumption | decide | (simp only [ByteArray.size]; decide) | (simp only [ByteArray.size_append, size_lit, List.size_toArray, List.length_cons, List.length_nil]; omega)))))
    go_wp2_with fail
    refine hP.mono ?_
    rintro e w5 ⟨s5, rfl, hs5, Hw5⟩
    clear hP
    have HX := Hw5
    go_wp2
    go_ret
    exact ⟨_, rfl, by first | omega | (simp only [ByteArray.size_append, size_lit, List.size_toArray, List.length_cons, List.length_nil]; omega), Lib.hid (HX.out.more (by omega))⟩
  by_cases h7 : z = 7
  · subst h7
    have hlt_w4 := H4.out.lt
    have hP := st_of (P := fun s => s.size ≤ 40) (b := w4.heap.size) (n := 4) (cap := 4) (H4.out.alloc (.cells #[.string ⟨#[109, 97, 105, 110]⟩, .string ⟨#[98, 48]⟩, .string ⟨#[98, 49]⟩, .string ⟨#[101, 110, 100]⟩] 9)) (by omega) (by omega) (by omega) (by omega) (by
      refine textRow_new w4 _ _ ?_
      (repeat (first | exact trivial | (refine ⟨⟨_, rfl, ?_⟩, ?_⟩; · first | assumption | decide | (simp only [ByteArray.size]; decide) | (simp only [ByteArray.size_append, size_lit, List.size_toArray, List.length_cons, List.length_nil]; omega)))))
    go_wp2_with fail
    refine hP.mono ?_
    rintro e w5 ⟨s5, rfl, hs5, Hw5⟩
    clear hP
    have HX := Hw5
    go_wp2
    go_ret
    exact ⟨_, rfl, by first | omega | (simp only [ByteArray.size_append, size_lit, List.size_toArray, List.length_cons, List.length_nil]; omega), Lib.hid (HX.out.more (by omega))⟩
  by_cases h8 : z = 8
  · subst h8
    have hlt_w4 := H4.out.lt
    have hP := st_of (P := fun s => s.size ≤ 40) (b := w4.heap.size) (n := 4) (cap := 4) (H4.out.alloc (.cells #[.string ⟨#[40, 101, 32, 118, 41, 32, 105]⟩, .string ⟨#[40, 101, 32, 40, 116, 32, 118, 32, 118, 41, 41, 32, 105]⟩, .string ⟨#[40, 101, 32, 40, 116, 32, 40, 99, 32, 118, 32, 105, 41, 32, 118, 41, 41, 32, 40, 116, 41]⟩, .string ⟨#[40, 101, 32, 118, 41, 32, 40, 116, 32, 105, 32, 105, 41]⟩] 9)) (by omega) (by omega) (by omega) (by omega) (by
      refine textRow_new w4 _ _ ?_
      (repeat (first | exact trivial | (refine ⟨⟨_, rfl, ?_⟩, ?_⟩; · first | assumption | decide | (simp only [ByteArray.size]; decide) | (simp only [ByteArray.size_append, size_lit, List.size_toArray, List.length_cons, List.length_nil]; omega)))))
    go_wp2_with fail
    refine hP.mono ?_
    rintro e w5 ⟨s5, rfl, hs5, Hw5⟩
    clear hP
    have HX := Hw5
    go_wp2
    go_ret
    exact ⟨_, rfl, by first | omega | (simp only [ByteArray.size_append, size_lit, List.size_toArray, List.length_cons, List.length_nil]; omega), Lib.hid (HX.out.more (by omega))⟩
  by_cases h9 : z = 9
  · subst h9
    have HX := H4
    go_wp2
    go_ret
    exact ⟨_, rfl, by first | omega | (simp only [ByteArray.size_append, size_lit, List.size_toArray, List.length_cons, List.length_nil]; omega), Lib.hid (HX.out.more (by omega))⟩
  by_cases h10 : z = 10
  · subst h10
    have hlt_w4 := H4.out.lt
    have hP := st_of (P := fun s => s.size ≤ 40) (b := w4.heap.size) (n := 3) (cap := 3) (H4.out.alloc (.cells #[.string ⟨#[98, 48]⟩, .string ⟨#[98, 49]⟩, .string ⟨#[109, 97, 105, 110]⟩] 9)) (by omega) (by omega) (by omega) (by omega) (by
      refine textRow_new w4 _ _ ?_
      (repeat (first | exact trivial | (refine ⟨⟨_, rfl, ?_⟩, ?_⟩; · first | assumption | decide | (simp only [ByteArray.size]; decide) | (simp only [ByteArray.size_append, size_lit, List.size_toArray, List.length_cons, List.length_nil]; omega)))))
    go_wp2_with fail
    refine hP.mono ?_
    rintro e w5 ⟨s5, rfl, hs5, Hw5⟩
    clear hP
    have HX := Hw5
    go_wp2
    go_ret
    exact ⟨_, rfl, by first | omega | (simp only [ByteArray.size_append, size_lit, List.size_toArray, List.length_cons, List.length_nil]; omega), Lib.hid (HX.out.more (by omega))⟩
  by_cases h11 : z = 11
  · subst h11
    have hlt_w4 := H4.out.lt
    have hP := st_of (P := fun s => s.size ≤ 40) (b := w4.heap.size) (n := 2) (cap := 2) (H4.out.alloc (.cells #[.string (⟨#[40, 106, 117, 109, 112, 32]⟩ ++ a ++ ⟨#[41]⟩), .string (⟨#[40, 104, 97, 108, 116, 32]⟩ ++ a ++ ⟨#[41]⟩)] 9)) (by omega) (by omega) (by omega) (by omega) (by
      refine textRow_new w4 _ _ ?_
      (repeat (first | exact trivial | (refine ⟨⟨_, rfl, ?_⟩, ?_⟩; · first | assumption | decide | (simp only [ByteArray.size]; decide) | (simp only [ByteArray.size_append, size_lit, List.size_toArray, List.length_cons, List.length_nil]; omega)))))
    go_wp2_with fail
    refine hP.mono ?_
    rintro e w5 ⟨s5, rfl, hs5, Hw5⟩
    clear hP
    have HX := Hw5
    go_wp2
    go_ret
    exact ⟨_, rfl, by first | omega | (simp only [ByteArray.size_append, size_lit, List.size_toArray, List.length_cons, List.length_nil]; omega), Lib.hid (HX.out.more (by omega))⟩
  have hb0 : (z == 0) = false := by simpa using h0
  have hb1 : (z == 1) = false := by simpa using h1
  have hb2 : (z == 2) = false := by simpa using h2
  have hb3 : (z == 3) = false := by simpa using h3
  have hb4 : (z == 4) = false := by simpa using h4
  have hb5 : (z == 5) = false := by simpa using h5
  have hb6 : (z == 6) = false := by simpa using h6
  have hb7 : (z == 7) = false := by simpa using h7
  have hb8 : (z == 8) = false := by simpa using h8
  have hb9 : (z == 9) = false := by simpa using h9
  have hb10 : (z == 10) = false := by simpa using h10
  have hb11 : (z == 11) = false := by simpa using h11
  clear h0 h1 h2 h3 h4 h5 h6 h7 h8 h9 h10 h11
  have hlt_w4 := H4.out.lt
  have hP := st_of (P := fun s => s.size ≤ 40) (b := w4.heap.size) (n := 10) (cap := 10) (H4.out.alloc (.cells #[.string ⟨#[40, 104, 97, 108, 116, 32, 52, 48, 41]⟩, .string ⟨#[40, 99, 111, 110, 115, 116, 32, 49, 32, 120, 41]⟩, .string ⟨#[40, 109, 111, 118, 32, 49, 41]⟩, .string ⟨#[40, 110, 101, 119, 41]⟩, .string ⟨#[40, 112, 97, 99, 107, 32, 49, 32, 50, 32, 105, 32, 105, 41]⟩, .string ⟨#[]⟩, .string ⟨#[40, 103, 101, 116, 32, 49, 32, 50, 32, 45, 49, 41]⟩, .string ⟨#[40, 122, 101, 114, 111, 32, 49, 32, 50, 41]⟩, .string ⟨#[40, 108, 97, 98, 32, 48, 32, 109, 97, 105, 110, 41]⟩, .string ⟨#[40, 104, 97, 108, 116, 32, 48, 41]⟩] 9)) (by omega) (by omega) (by omega) (by omega) (by
    refine textRow_new w4 _ _ ?_
    (repeat (first | exact trivial | (refine ⟨⟨_, rfl, ?_⟩, ?_⟩; · first | assumption | decide | (simp only [ByteArray.size]; decide) | (simp only [ByteArray.size_append, size_lit, List.size_toArray, List.length_cons, List.length_nil]; omega)))))
  go_wp2_with fail
  refine hP.mono ?_
  rintro e w5 ⟨s5, rfl, hs5, Hw5⟩
  clear hP
  have HX := Hw5
  go_wp2
  go_ret
  exact ⟨_, rfl, by first | omega | (simp only [ByteArray.size_append, size_lit, List.size_toArray, List.length_cons, List.length_nil]; omega), Lib.hid (HX.out.more (by omega))⟩
end Go.Proofs.YtpamfjbgnpmmoaaGreatDoor
