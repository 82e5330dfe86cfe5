/- Drawing expressions, whole; the law's draw. -/
import Derived.Test.YtoihkjnfklogpaaDrawK
namespace Go.Proofs.Ytoihkjnfklogpaa
open Go.RowKit

theorem strs3 {w : World} {b : Nat} {x y z : ByteArray} {ty : TypeId} (h : w.heap[b]? = some (.cells #[.string x, .string y, .string z] ty (0, 0))) : Strs w (some ⟨b, 0, none⟩) 3 [x, y, z] := by
  refine ⟨rfl, .inr ⟨b, 0, rfl, fun i s hi => ?_⟩⟩
  match i, hi with
  | 0, hi => cases hi; simp only [World.cell?, h]; rfl
  | 1, hi => cases hi; simp only [World.cell?, h]; rfl
  | 2, hi => cases hi; simp only [World.cell?, h]; rfl
  | (n + 3), hi => simp at hi

theorem st_type {w0 W : World} {rb p K : Nat} (h : St w0 rb p K W) (hp : p + K + 2 ≤ 1000000) : Calls Try.prog 93 #[.pointer (some ⟨rb, 0, none⟩), .int .i64 1] W fun e w' => ∃ s, e = .returned (.string s) ∧ s.size ≤ 7 ∧ Hid (St w0 rb p (K + 2) w') := by
  refine st_text (N := 7) (k := 2) h (fun q h1 h2 => ?_)
  have := l91Type_any 1 W rb q (by omega) h1 (by simp [picksT]; omega)
  simpa [sizeT, picksT] using this

set_option maxRecDepth 100000 in
set_option maxHeartbeats 6400000 in
theorem l91Expr_any (d : Nat) : d ≤ 3 → ExprC d := by
  induction d with
  | zero =>
    intro _ w0 W rb p K M n c n2 c2 o o2 ns ts want h hp hs hM hw
    have HLF : Hid (Calls Try.prog 92 #[.pointer (some ⟨rb, 0, none⟩), .agg #[.slice o n c, .slice o2 n2 c2], .string want] (W.alloc (.cells #[.slice o n c, .slice o2 n2 c2] 81)) (TR w0 rb p 400000 (K + 2))) :=
      st_text (N := 400000) (k := 2) (h.alloc _) (fun q hq hq2 => l91Leaf_any rb q M o o2 n c n2 c2 ns ts want _ hq (by simp only [picksE] at hp; omega) (hs.below ((Below.refl _ _).alloc (Nat.le_refl _) _)) (by omega) (by omega))
    go_enter Try.func67, Try.ntmps67
    go_wp2_with fail
    refine HLF.out.mono ?_
    rintro e w2 ⟨s, rfl, hs2, H2⟩
    go_wp2
    go_ret
    exact ⟨_, rfl, by simpa [sizeE] using hs2, by simpa [picksE] using H2⟩
  | succ d ih =>
    intro hd3 w0 W rb p K M n c n2 c2 o o2 ns ts want h hp hs hM hw
    have IH : Hid (ExprC d) := ih (by omega)
    have hd : d ≤ 2 := by omega
    clear ih
    simp only [sizeE, picksE] at hp ⊢
    obtain ⟨z1, z2, z3⟩ := sizeE_le d (by omega)
    have hlt := h.lt
    have HBX : Hid (∀ V, (W.alloc (.cells #[.slice o n c, .slice o2 n2 c2] 81)).grownBy V (some rb) → V.cell? ⟨W.heap.size, 0, none⟩ = some (.slice o n c) ∧ V.cell? ⟨W.heap.size, 1, none⟩ = some (.slice o2 n2 c2)) := fun V hg => by
      obtain ⟨x, y⟩ := two_new W (.slice o n c) (.slice o2 n2 c2) 81
      exact ⟨hg.cell x (by simp; omega), hg.cell y (by simp; omega)⟩
    have HG : Hid (∀ V, (W.alloc (.cells #[.slice o n c, .slice o2 n2 c2] 81)).grownBy V (some rb) → Scoped V rb M o n o2 n2 ns ts) := fun V hg => (hs.below ((Below.refl _ _).alloc (Nat.le_refl _) _)).grown hg
    have HW : Hid (∀ V K', Hid (St (W.alloc (.cells #[.slice o n c, .slice o2 n2 c2] 81)) rb (p + K) K' V) → K' ≤ 3 * picksE d + 20 → Hid (St w0 rb p (K + (3 * picksE d + 20)) V)) := fun V K' hst hk => by
      obtain ⟨q, k1, k2, k3⟩ := hst
      exact ⟨q, k1, by omega, grownBy_trans (grownBy_alloc h.grow _) k3⟩
    have H0 : Hid (St (W.alloc (.cells #[.slice o n c, .slice o2 n2 c2] 81)) rb (p + K) 0 (W.alloc (.cells #[.slice o n c, .slice o2 n2 c2] 81))) := by
      obtain ⟨q, k1, k2, k3⟩ := h
      exact ⟨q, k1.alloc _, by omega, grownBy_refl _ _⟩
    generalize hW1 : W.alloc (.cells #[.slice o n c, .slice o2 n2 c2] 81) = W1 at *
    have HSS : Hid (∀ K' V, Hid (St W1 rb (p + K) K' V) → V.cell? ⟨W.heap.size, 0, none⟩ = some (.slice o n c) ∧ V.cell? ⟨W.heap.size, 1, none⟩ = some (.slice o2 n2 c2)) := fun K' V hst => HBX.out _ hst.out.grow
    have HIX : Hid (∀ K' (x : ByteArray), K' ≤ 2 * picksE d + 10 → x.size + 40 * d ≤ 20000 → ∀ V, Hid (St W1 rb (p + K) K' V) → Calls Try.prog 67 #[.pointer (some ⟨rb, 0, none⟩), .agg #[.slice o n c, .slice o2 n2 c2], .string x, .int .i64 d] V fun e w' => ∃ s, e = .returned (.string s) ∧ s.size ≤ sizeE d ∧ Hid (St W1 rb (p + K) (K' + picksE d) w')) :=
      fun K' x hk hx V hst => IH.out W1 V rb (p + K) K' M n c n2 c2 o o2 ns ts x hst.out (by omega) (HG.out _ hst.out.grow) (by omega) (by omega)
    have HBD : Hid (∀ V, Hid (St W1 rb (p + K) (0 + 1) V) → Calls Try.prog 96 #[.pointer (some ⟨rb, 0, none⟩), .agg #[.slice o n c, .slice o2 n2 c2], .string want, .int .i64 (d + 1 : Nat)] V fun e w' => ∃ s, e = .returned (.string s) ∧ s.size ≤ 3 * sizeE d + 50000 ∧ Hid (St W1 rb (p + K) (0 + 1 + (2 * picksE d + 10)) w')) :=
      fun V hst => l91Build_any d hd IH W1 V rb (p + K) (0 + 1) M n c n2 c2 o o2 ns ts want hst.out (by omega) (HG.out _ hst.out.grow) (by omega) (by omega)
    have HMO : Hid (∀ K' (x k : ByteArray), x.size ≤ 3 → ∀ V, Hid (St W1 rb (p + K) K' V) → Calls Try.prog 94 #[.agg #[.slice o n c, .slice o2 n2 c2], .string x, .string k] V fun e w' => ∃ q1 k1 d1 q2 k2 d2 l3 l4, e = .returned (.agg #[.slice q1 k1 d1, .slice q2 k2 d2]) ∧ Hid (Scoped w' rb (M + 1) q1 k1 q2 k2 l3 l4) ∧ Hid (St W1 rb (p + K) K' w')) := fun K' x k hx V hst => by
      refine (l91More_any rb M o o2 n c n2 c2 ns ts x k V (HG.out _ hst.out.grow) (by omega) hst.out.lt hx).mono ?_
      rintro e w' ⟨q1, k1, d1, q2, k2, d2, l3, l4, rfl, h1, h2, -, -⟩
      exact ⟨q1, k1, d1, q2, k2, d2, l3, l4, rfl, h1, hst.out.below h2⟩
    have HIY : Hid (∀ K', K' ≤ 2 * picksE d + 10 → ∀ V q1 k1 d1 q2 k2 d2 l3 l4, Hid (Scoped V rb (M + 1) q1 k1 q2 k2 l3 l4) → Hid (St W1 rb (p + K) K' V) → Calls Try.prog 67 #[.pointer (some ⟨rb, 0, none⟩), .agg #[.slice q1 k1 d1, .slice q2 k2 d2], .string want, .int .i64 d] V fun e w' => ∃ s, e = .returned (.string s) ∧ s.size ≤ sizeE d ∧ Hid (St W1 rb (p + K) (K' + picksE d) w')) :=
      fun K' hk V q1 k1 d1 q2 k2 d2 l3 l4 hsc hst => IH.out W1 V rb (p + K) K' (M + 1) k1 d1 k2 d2 q1 q2 l3 l4 want hst.out (by omega) hsc.out (by omega) (by omega)
    have hdc : (((d + 1 : Nat) : Int)) - 1 = (d : Int) := by omega
    have hdb : (((d + 1 : Nat) : Int) == 0) = false := by simp; omega
    have HZ2 := Lib.hid z2
    have HBE : Hid ((((d + 1 : Nat) : Int)) = (d : Int) + 1) := by show _ = _; omega
    clear hs h HBX
    have hP := Lib.hid (st_pick (n := 12) H0.out (by omega) (by omega) (by omega))
    go_enter Try.func67, Try.ntmps67
    go_wp2_with fail
    (try rw [hW1])
    refine hP.out.mono ?_
    rintro e w3 ⟨z, rfl, hz0, hz1, H3⟩
    clear hP hW1
    have H3D : Hid (St W1 rb (p + K) (0 + 1) w3.drew) := H3.out.drew
    have hlt3 := H3.out.lt
    obtain ⟨x0, x1⟩ := HSS.out _ _ H3
    by_cases h0 : z = 0
    · subst h0
      have HE1 := Lib.hid (HIX.out (0 + 1) ⟨#[105]⟩ (by omega) (by show 1 + 40 * d ≤ 20000; omega))
      have HE2 := Lib.hid (HIX.out (0 + 1 + picksE d) want (by omega) (by omega))
      have HE3 := Lib.hid (HIX.out (0 + 1 + picksE d + picksE d) want (by omega) (by omega))
      go_wp2_with fail
      go_region_held3 (fun V => V.cell? ⟨W.heap.size, 0, none⟩ = some (.slice o n c) ∧ V.cell? ⟨W.heap.size, 1, none⟩ = some (.slice o2 n2 c2))
        (first | with_reducible exact HSS.out _ _ H9 | with_reducible exact HSS.out _ _ H8 | with_reducible exact HSS.out _ _ H7 | with_reducible exact HSS.out _ _ H3D | with_reducible exact HSS.out _ _ H3)
        (first
          | (go_at_call 67; with_reducible refine (HE1.out _ H3D).mono ?_; rintro e w7 ⟨s7, rfl, hs7, H7⟩; have hs7' := Nat.le_trans hs7 HZ2.out; have g1 : ¬ 9223372036854775807 < 4 + s7.size := (by omega); have g2 : ¬ 9223372036854775807 < 4 + s7.size + 1 := (by omega))
          | (go_at_call 67; with_reducible refine (HE2.out _ H7).mono ?_; rintro e w8 ⟨s8, rfl, hs8, H8⟩; have hs8' := Nat.le_trans hs8 HZ2.out; have g3 : ¬ 9223372036854775807 < 4 + s7.size + 1 + s8.size := (by omega); have g4 : ¬ 9223372036854775807 < 4 + s7.size + 1 + s8.size + 1 := (by omega))
          | (go_at_call 67; with_reducible refine (HE3.out _ H8).mono ?_; rintro e w9 ⟨s9, rfl, hs9, H9⟩; have hs9' := Nat.le_trans hs9 HZ2.out; have g5 : ¬ 9223372036854775807 < 4 + s7.size + 1 + s8.size + 1 + s9.size := (by omega); have g6 : ¬ 9223372036854775807 < 4 + s7.size + 1 + s8.size + 1 + s9.size + 1 := (by omega)))
      go_wp2
      go_ret
      exact ⟨_, rfl, by simp only [ByteArray.size_append, size_lit, List.size_toArray, List.length_cons, List.length_nil]; omega, HW.out _ _ H9 (by omega)⟩
    by_cases h1 : z = 1
    · subst h1
      have HT := Lib.hid (st_type H3.out (by omega))
      go_wp2_with fail
      refine HT.out.mono ?_
      rintro e w4 ⟨kd, rfl, hkd, H4⟩
      have hlt4 := H4.out.lt
      have hP := st_of (P := fun s => s.size ≤ 2) (b := w4.heap.size) (n := 5) (cap := 5) (H4.out.alloc (.cells #[.string ⟨#[97]⟩, .string ⟨#[98]⟩, .string ⟨#[99]⟩, .string ⟨#[120, 49]⟩, .string ⟨#[121, 48]⟩] 9)) (by omega) (by omega) (by omega) (by omega) (by
        refine textRow_new w4 _ _ ?_
        (repeat (first | exact trivial | (refine ⟨⟨_, rfl, ?_⟩, ?_⟩; · first | assumption | decide | (simp only [ByteArray.size]; decide)))))
      go_wp2_with fail
      refine hP.mono ?_
      rintro e w5 ⟨nm, rfl, hnm, H5⟩
      clear hP HT
      have H5D : Hid (St W1 rb (p + K) (0 + 1 + 2 + 1) w5.drew) := H5.out.drew
      have HE1 := Lib.hid (HIX.out (0 + 1 + 2 + 1) kd (by omega) (by omega))
      have HM := Lib.hid (HMO.out (0 + 1 + 2 + 1 + picksE d) nm kd (by omega))
      have HE2 := Lib.hid (HIY.out (0 + 1 + 2 + 1 + picksE d) (by omega))
      have gn1 : ¬ 9223372036854775807 < 5 + nm.size := by omega
      have gn2 : ¬ 9223372036854775807 < 5 + nm.size + 1 := by omega
      obtain ⟨y0, y1⟩ := HSS.out _ _ H5
      go_wp2_with fail
      go_region_held3 (fun V => V.cell? ⟨W.heap.size, 0, none⟩ = some (.slice o n c) ∧ V.cell? ⟨W.heap.size, 1, none⟩ = some (.slice o2 n2 c2))
        (first | with_reducible exact HSS.out _ _ H9 | with_reducible exact HSS.out _ _ H8 | with_reducible exact HSS.out _ _ H7 | with_reducible exact HSS.out _ _ H5D | with_reducible exact HSS.out _ _ H5)
        (first
          | (go_at_call 67; with_reducible refine (HE1.out _ H5D).mono ?_; rintro e w7 ⟨s7, rfl, hs7, H7⟩; have hs7' := Nat.le_trans hs7 HZ2.out; have g1 : ¬ 9223372036854775807 < 5 + nm.size + 1 + s7.size := (by omega); have g2 : ¬ 9223372036854775807 < 5 + nm.size + 1 + s7.size + 1 := (by omega))
          | (go_at_call 94; with_reducible refine (HM.out _ H7).mono ?_; rintro e w8 ⟨q1, k1, d1, q2, k2, d2, l3, l4, rfl, HS8, H8⟩)
          | (go_at_call 67; with_reducible refine (HE2.out _ _ _ _ _ _ _ _ _ HS8 H8).mono ?_; rintro e w9 ⟨s9, rfl, hs9, H9⟩; have hs9' := Nat.le_trans hs9 HZ2.out; have g3 : ¬ 9223372036854775807 < 5 + nm.size + 1 + s7.size + 1 + s9.size := (by omega); have g4 : ¬ 9223372036854775807 < 5 + nm.size + 1 + s7.size + 1 + s9.size + 1 := (by omega)))
      go_wp2
      go_ret
      exact ⟨_, rfl, by simp only [ByteArray.size_append, size_lit, List.size_toArray, List.length_cons, List.length_nil]; omega, HW.out _ _ H9 (by omega)⟩
    by_cases h2 : z = 2
    · subst h2
      have HT := Lib.hid (st_type H3.out (by omega))
      go_wp2_with fail
      refine HT.out.mono ?_
      rintro e w4 ⟨kd, rfl, hkd, H4⟩
      have hlt4 := H4.out.lt
      have hP := st_of (P := fun s => s.size ≤ 2) (b := w4.heap.size) (n := 5) (cap := 5) (H4.out.alloc (.cells #[.string ⟨#[97]⟩, .string ⟨#[98]⟩, .string ⟨#[99]⟩, .string ⟨#[120, 49]⟩, .string ⟨#[121, 48]⟩] 9)) (by omega) (by omega) (by omega) (by omega) (by
        refine textRow_new w4 _ _ ?_
        (repeat (first | exact trivial | (refine ⟨⟨_, rfl, ?_⟩, ?_⟩; · first | assumption | decide | (simp only [ByteArray.size]; decide)))))
      go_wp2_with fail
      refine hP.mono ?_
      rintro e w5 ⟨nm, rfl, hnm, H5⟩
      clear hP HT
      have H5D : Hid (St W1 rb (p + K) (0 + 1 + 2 + 1) w5.drew) := H5.out.drew
      have HE1 := Lib.hid (HIX.out (0 + 1 + 2 + 1) kd (by omega) (by omega))
      have HM := Lib.hid (HMO.out (0 + 1 + 2 + 1 + picksE d) nm kd (by omega))
      have HE2 := Lib.hid (HIY.out (0 + 1 + 2 + 1 + picksE d) (by omega))
      have gn1 : ¬ 9223372036854775807 < 5 + nm.size := by omega
      have gn2 : ¬ 9223372036854775807 < 5 + nm.size + 1 := by omega
      obtain ⟨y0, y1⟩ := HSS.out _ _ H5
      go_wp2_with fail
      go_region_held3 (fun V => V.cell? ⟨W.heap.size, 0, none⟩ = some (.slice o n c) ∧ V.cell? ⟨W.heap.size, 1, none⟩ = some (.slice o2 n2 c2))
        (first | with_reducible exact HSS.out _ _ H9 | with_reducible exact HSS.out _ _ H8 | with_reducible exact HSS.out _ _ H7 | with_reducible exact HSS.out _ _ H5D | with_reducible exact HSS.out _ _ H5)
        (first
          | (go_at_call 67; with_reducible refine (HE1.out _ H5D).mono ?_; rintro e w7 ⟨s7, rfl, hs7, H7⟩; have hs7' := Nat.le_trans hs7 HZ2.out; have g1 : ¬ 9223372036854775807 < 5 + nm.size + 1 + s7.size := (by omega); have g2 : ¬ 9223372036854775807 < 5 + nm.size + 1 + s7.size + 1 := (by omega))
          | (go_at_call 94; with_reducible refine (HM.out _ H7).mono ?_; rintro e w8 ⟨q1, k1, d1, q2, k2, d2, l3, l4, rfl, HS8, H8⟩)
          | (go_at_call 67; with_reducible refine (HE2.out _ _ _ _ _ _ _ _ _ HS8 H8).mono ?_; rintro e w9 ⟨s9, rfl, hs9, H9⟩; have hs9' := Nat.le_trans hs9 HZ2.out; have g3 : ¬ 9223372036854775807 < 5 + nm.size + 1 + s7.size + 1 + s9.size := (by omega); have g4 : ¬ 9223372036854775807 < 5 + nm.size + 1 + s7.size + 1 + s9.size + 1 := (by omega)))
      go_wp2
      go_ret
      exact ⟨_, rfl, by simp only [ByteArray.size_append, size_lit, List.size_toArray, List.length_cons, List.length_nil]; omega, HW.out _ _ H9 (by omega)⟩
    by_cases h3 : z = 3
    · subst h3
      have HT := Lib.hid (st_type H3.out (by omega))
      go_wp2_with fail
      refine HT.out.mono ?_
      rintro e w5 ⟨kd, rfl, hkd, H5⟩
      clear HT
      have H5D : Hid (St W1 rb (p + K) (0 + 1 + 2) w5.drew) := H5.out.drew
      have HE1 := Lib.hid (HIX.out (0 + 1 + 2) (⟨#[40, 62, 32]⟩ ++ kd ++ ⟨#[32]⟩ ++ want ++ ⟨#[41]⟩) (by omega) (by simp only [ByteArray.size_append, size_lit, List.size_toArray, List.length_cons, List.length_nil]; omega))
      have HE2 := Lib.hid (HIX.out (0 + 1 + 2 + picksE d) kd (by omega) (by omega))
      have gn1 : ¬ 9223372036854775807 < 3 + kd.size := by omega
      have gn2 : ¬ 9223372036854775807 < 3 + kd.size + 1 := by omega
      have gn3 : ¬ 9223372036854775807 < 3 + kd.size + 1 + want.size := by omega
      have gn4 : ¬ 9223372036854775807 < 3 + kd.size + 1 + want.size + 1 := by omega
      obtain ⟨y0, y1⟩ := HSS.out _ _ H5
      go_wp2_with fail
      go_region_held3 (fun V => V.cell? ⟨W.heap.size, 0, none⟩ = some (.slice o n c) ∧ V.cell? ⟨W.heap.size, 1, none⟩ = some (.slice o2 n2 c2))
        (first | with_reducible exact HSS.out _ _ H8 | with_reducible exact HSS.out _ _ H7 | with_reducible exact HSS.out _ _ H5D | with_reducible exact HSS.out _ _ H5)
        (first
          | (go_at_call 67; with_reducible refine (HE1.out _ H5D).mono ?_; rintro e w7 ⟨s7, rfl, hs7, H7⟩; have hs7' := Nat.le_trans hs7 HZ2.out; have g1 : ¬ 9223372036854775807 < 6 + s7.size := (by omega); have g2 : ¬ 9223372036854775807 < 6 + s7.size + 1 := (by omega))
          | (go_at_call 67; with_reducible refine (HE2.out _ H7).mono ?_; rintro e w8 ⟨s8, rfl, hs8, H8⟩; have hs8' := Nat.le_trans hs8 HZ2.out; have g3 : ¬ 9223372036854775807 < 6 + s7.size + 1 + s8.size := (by omega); have g4 : ¬ 9223372036854775807 < 6 + s7.size + 1 + s8.size + 1 := (by omega)))
      go_wp2
      go_ret
      exact ⟨_, rfl, by simp only [ByteArray.size_append, size_lit, List.size_toArray, List.length_cons, List.length_nil]; omega, HW.out _ _ H8 (by omega)⟩
    by_cases h4 : z = 4
    · subst h4
      have HT := Lib.hid (st_type H3.out (by omega))
      go_wp2_with fail
      refine HT.out.mono ?_
      rintro e w5 ⟨kd, rfl, hkd, H5⟩
      clear HT
      have H5D : Hid (St W1 rb (p + K) (0 + 1 + 2) w5.drew) := H5.out.drew
      have HE1 := Lib.hid (HIX.out (0 + 1 + 2) (⟨#[40, 62, 32]⟩ ++ kd ++ ⟨#[32]⟩ ++ want ++ ⟨#[41]⟩) (by omega) (by simp only [ByteArray.size_append, size_lit, List.size_toArray, List.length_cons, List.length_nil]; omega))
      have HE2 := Lib.hid (HIX.out (0 + 1 + 2 + picksE d) kd (by omega) (by omega))
      have gn1 : ¬ 9223372036854775807 < 3 + kd.size := by omega
      have gn2 : ¬ 9223372036854775807 < 3 + kd.size + 1 := by omega
      have gn3 : ¬ 9223372036854775807 < 3 + kd.size + 1 + want.size := by omega
      have gn4 : ¬ 9223372036854775807 < 3 + kd.size + 1 + want.size + 1 := by omega
      obtain ⟨y0, y1⟩ := HSS.out _ _ H5
      go_wp2_with fail
      go_region_held3 (fun V => V.cell? ⟨W.heap.size, 0, none⟩ = some (.slice o n c) ∧ V.cell? ⟨W.heap.size, 1, none⟩ = some (.slice o2 n2 c2))
        (first | with_reducible exact HSS.out _ _ H8 | with_reducible exact HSS.out _ _ H7 | with_reducible exact HSS.out _ _ H5D | with_reducible exact HSS.out _ _ H5)
        (first
          | (go_at_call 67; with_reducible refine (HE1.out _ H5D).mono ?_; rintro e w7 ⟨s7, rfl, hs7, H7⟩; have hs7' := Nat.le_trans hs7 HZ2.out; have g1 : ¬ 9223372036854775807 < 6 + s7.size := (by omega); have g2 : ¬ 9223372036854775807 < 6 + s7.size + 1 := (by omega))
          | (go_at_call 67; with_reducible refine (HE2.out _ H7).mono ?_; rintro e w8 ⟨s8, rfl, hs8, H8⟩; have hs8' := Nat.le_trans hs8 HZ2.out; have g3 : ¬ 9223372036854775807 < 6 + s7.size + 1 + s8.size := (by omega); have g4 : ¬ 9223372036854775807 < 6 + s7.size + 1 + s8.size + 1 := (by omega)))
      go_wp2
      go_ret
      exact ⟨_, rfl, by simp only [ByteArray.size_append, size_lit, List.size_toArray, List.length_cons, List.length_nil]; omega, HW.out _ _ H8 (by omega)⟩
    by_cases h5 : z = 5
    · subst h5
      have HE1 := Lib.hid (HIX.out (0 + 1) (⟨#[40, 42, 32]⟩ ++ want ++ ⟨#[32, 105, 41]⟩) (by omega) (by simp only [ByteArray.size_append, size_lit, List.size_toArray, List.length_cons, List.length_nil]; omega))
      go_wp2_with fail
      refine (HE1.out _ H3).mono ?_
      rintro e w20 ⟨s20, rfl, hs20, H20⟩
      have hs20' : s20.size ≤ 12000000 := by omega
      go_wp2
      go_ret
      exact ⟨_, rfl, by simp only [ByteArray.size_append, size_lit, List.size_toArray, List.length_cons, List.length_nil]; omega, HW.out _ _ H20 (by omega)⟩
    by_cases h6 : z = 6
    · subst h6
      have HE1 := Lib.hid (HIX.out (0 + 1) (⟨#[40, 42, 32, 105, 32]⟩ ++ want ++ ⟨#[41]⟩) (by omega) (by simp only [ByteArray.size_append, size_lit, List.size_toArray, List.length_cons, List.length_nil]; omega))
      go_wp2_with fail
      refine (HE1.out _ H3).mono ?_
      rintro e w20 ⟨s20, rfl, hs20, H20⟩
      have hs20' : s20.size ≤ 12000000 := by omega
      go_wp2
      go_ret
      exact ⟨_, rfl, by simp only [ByteArray.size_append, size_lit, List.size_toArray, List.length_cons, List.length_nil]; omega, HW.out _ _ H20 (by omega)⟩
    by_cases h7 : z = 7
    · subst h7
      cases hwi : (want.toList == [105])
      · go_wp2_with fail
        refine (HBD.out _ H3).mono ?_
        rintro e w20 ⟨s20, rfl, hs20, H20⟩
        go_wp2
        go_ret
        exact ⟨_, rfl, by omega, HW.out _ _ H20 (by omega)⟩
      · go_wp2_with fail
        refine (l91Loop_any H3.out (by omega)).mono ?_
        rintro e w20 ⟨s20, rfl, hs20, H20⟩
        go_wp2
        go_ret
        exact ⟨_, rfl, by omega, HW.out _ _ H20 (by omega)⟩
    have hb0 : (z == 0) = false := by simpa using h0
    have hb1 : (z == 1) = false := by simpa using h1
    have hb2 : (z == 2) = false := by simpa using h2
    have hb3 : (z == 3) = false := by simpa using h3
    have hb4 : (z == 4) = false := by simpa using h4
    have hb5 : (z == 5) = false := by simpa using h5
    have hb6 : (z == 6) = false := by simpa using h6
    have hb7 : (z == 7) = false := by simpa using h7
    clear h0 h1 h2 h3 h4 h5 h6 h7
    go_wp2_with fail
    refine (HBD.out _ H3).mono ?_
    rintro e w20 ⟨s20, rfl, hs20, H20⟩
    go_wp2
    go_ret
    exact ⟨_, rfl, by omega, HW.out _ _ H20 (by omega)⟩

set_option maxRecDepth 100000 in
set_option maxHeartbeats 1600000 in
theorem l91Open_any {w0 W : World} {rb p K : Nat} (h : St w0 rb p K W) (hp : p + K ≤ 10000) : Calls Try.prog 39 #[.pointer (some ⟨rb, 0, none⟩)] W fun e w' => ∃ s, e = .returned (.string s) ∧ s.size ≤ 12000000 ∧ Hid (St w0 rb p (K + 401) w') := by
  have hlt := h.lt
  generalize hW3 : (((W.alloc (.cells #[.string ⟨#[97]⟩, .string ⟨#[98]⟩, .string ⟨#[120, 48]⟩] 9)).alloc (.cells #[.string ⟨#[105]⟩, .string ⟨#[40, 42, 32, 105, 32, 105, 41]⟩, .string ⟨#[105]⟩] 9)).alloc (.cells #[.slice (some ⟨W.heap.size, 0, none⟩) 3 3, .slice (some ⟨W.heap.size + 1, 0, none⟩) 3 3] 81)) = W3
  have H3 : Hid (St w0 rb p K W3) := by rw [← hW3]; exact ((h.alloc _).alloc _).alloc _
  have hb1 : W3.heap[W.heap.size]? = some (.cells #[.string ⟨#[97]⟩, .string ⟨#[98]⟩, .string ⟨#[120, 48]⟩] 9 (0, 0)) := by
    rw [← hW3, Below.heap_alloc _ _ _ (by simp; omega), Below.heap_alloc _ _ _ (by simp)]; exact heap_alloc_new W _
  have hb2 : W3.heap[W.heap.size + 1]? = some (.cells #[.string ⟨#[105]⟩, .string ⟨#[40, 42, 32, 105, 32, 105, 41]⟩, .string ⟨#[105]⟩] 9 (0, 0)) := by
    rw [← hW3, Below.heap_alloc _ _ _ (by simp)]
    have := heap_alloc_new (W.alloc (.cells #[.string ⟨#[97]⟩, .string ⟨#[98]⟩, .string ⟨#[120, 48]⟩] 9)) (.cells #[.string ⟨#[105]⟩, .string ⟨#[40, 42, 32, 105, 32, 105, 41]⟩, .string ⟨#[105]⟩] 9)
    rwa [World.size_alloc] at this
  have hb3 : W3.heap[W.heap.size + 2]? = some (.cells #[.slice (some ⟨W.heap.size, 0, none⟩) 3 3, .slice (some ⟨W.heap.size + 1, 0, none⟩) 3 3] 81 (0, 0)) := by
    rw [← hW3]
    have := heap_alloc_new ((W.alloc (.cells #[.string ⟨#[97]⟩, .string ⟨#[98]⟩, .string ⟨#[120, 48]⟩] 9)).alloc (.cells #[.string ⟨#[105]⟩, .string ⟨#[40, 42, 32, 105, 32, 105, 41]⟩, .string ⟨#[105]⟩] 9)) (.cells #[.slice (some ⟨W.heap.size, 0, none⟩) 3 3, .slice (some ⟨W.heap.size + 1, 0, none⟩) 3 3] 81)
    rwa [World.size_alloc, World.size_alloc] at this
  have hlen3 : W3.heap.size = W.heap.size + 3 := by rw [← hW3]; simp
  have hS3 : Scoped W3 rb 3 (some ⟨W.heap.size, 0, none⟩) 3 (some ⟨W.heap.size + 1, 0, none⟩) 3 [⟨#[97]⟩, ⟨#[98]⟩, ⟨#[120, 48]⟩] [⟨#[105]⟩, ⟨#[40, 42, 32, 105, 32, 105, 41]⟩, ⟨#[105]⟩] :=
    ⟨strs3 hb1, strs3 hb2, rfl, by decide, by decide, fun a ha e => by cases ha; simp at e; omega, fun a ha e => by cases ha; simp at e; omega⟩
  have HB : Hid (Below W.heap.size W W3) := by rw [← hW3]; exact (((Below.refl _ _).alloc (Nat.le_refl _) _).alloc (by simp) _).alloc (by simp; omega) _
  have HSC : Hid (∀ K' V, Hid (St W3 rb (p + K) K' V) → V.cell? ⟨W.heap.size + 2, 0, none⟩ = some (.slice (some ⟨W.heap.size, 0, none⟩) 3 3) ∧ V.cell? ⟨W.heap.size + 2, 1, none⟩ = some (.slice (some ⟨W.heap.size + 1, 0, none⟩) 3 3)) := fun K' V hst =>
    box_cells ((hst.out.grow.block (W.heap.size + 2) (by omega) (by simp; omega)).trans hb3)
  have H3R := Lib.hid H3.out.rebase
  have HJ : Hid (∀ K' V, Hid (St W3 rb (p + K) K' V) → K' ≤ 401 → Hid (St w0 rb p (K + 401) V)) := fun K' V hst hk => (H3.out.join hst.out).more (by omega)
  have H3D : Hid (St W3 rb (p + K) 0 W3.drew) := H3R.out.drew
  have HP := Lib.hid (st_pick (n := 2) H3D.out (by omega) (by omega) (by omega))
  have HE : Hid (∀ (k : Nat), k ≤ 1 → ∀ V, Hid (St W3 rb (p + K) (0 + 1) V) → Calls Try.prog 67 #[.pointer (some ⟨rb, 0, none⟩), .agg #[.slice (some ⟨W.heap.size, 0, none⟩) 3 3, .slice (some ⟨W.heap.size + 1, 0, none⟩) 3 3], .string ⟨#[105]⟩, .int .i64 (IntKind.i64.wrap (2 + (k : Int)))] V fun e w' => ∃ s, e = .returned (.string s) ∧ s.size ≤ 12000000 ∧ Hid (St W3 rb (p + K) 401 w')) := fun k hk V hst => by
    obtain ⟨z1, z2, z3⟩ := sizeE_le (2 + k) (by omega)
    have hc := l91Expr_any (2 + k) (by omega) W3 V rb (p + K) (0 + 1) 3 3 3 3 3 _ _ _ _ ⟨#[105]⟩ hst.out (by omega) (hS3.grown hst.out.grow) (by omega) (by show 1 + 40 * (2 + k) ≤ 20000; omega)
    have e : (((2 + k : Nat) : Int)) = IntKind.i64.wrap (2 + (k : Int)) := by rw [IntWalk.i64_in _ (by omega)]; omega
    rw [e] at hc
    refine hc.mono ?_
    rintro e w' ⟨s, rfl, hs, hst'⟩
    exact ⟨s, rfl, by omega, Lib.hid (hst'.out.more (by omega))⟩
  obtain ⟨x0, x1⟩ := HSC.out _ _ H3R
  clear h hb1 hb2 hb3 hlen3 hS3
  go_enter Try.func39, Try.ntmps39
  go_wp2_with fail
  (try rw [hW3])
  clear hW3
  go_region_held3 (fun V => V.cell? ⟨W.heap.size + 2, 0, none⟩ = some (.slice (some ⟨W.heap.size, 0, none⟩) 3 3) ∧ V.cell? ⟨W.heap.size + 2, 1, none⟩ = some (.slice (some ⟨W.heap.size + 1, 0, none⟩) 3 3))
    (first | with_reducible exact HSC.out _ _ H5 | with_reducible exact HSC.out _ _ H4 | with_reducible exact HSC.out _ _ H3D | with_reducible exact HSC.out _ _ H3R)
    (first
      | (go_at_call 68; with_reducible refine HP.out.mono ?_; rintro e w4 ⟨z, rfl, hz0, hz1, H4⟩; obtain ⟨k, rfl⟩ := Int.eq_ofNat_of_zero_le hz0; have HE4 := Lib.hid (HE.out k (by omega)))
      | (go_at_call 67; with_reducible refine (HE4.out _ H4).mono ?_; rintro e w5 ⟨s, rfl, hs, H5⟩))
  go_wp2
  go_ret
  exact ⟨_, rfl, hs, HJ.out _ _ H5 (by omega)⟩

set_option maxRecDepth 100000 in
set_option maxHeartbeats 1600000 in
theorem drawExprCount_any (w : World) (a : Option Addr) (len cap : Nat) (h : Code w a len cap) :
    Calls Try.prog 16 #[.slice a len cap] w fun e w' => ∃ s x, e = .returned (.tuple #[.string s, .string x]) ∧ s.size ≤ 12000000 ∧ x.size ≤ 2 ∧ Below w.heap.size w w' := by
  have H := Lib.hid (l6Open_any w a len cap h)
  clear h
  go_enter Try.func16, Try.ntmps16
  go_wp2_with fail
  refine H.out.mono ?_
  rintro e w1 ⟨rb, rfl, hrb, hrd, hB1⟩
  have H1 := Lib.hid (St.start hrd)
  have hlt := hrd.lt
  go_wp2_with fail
  refine (l91Open_any H1.out (by omega)).mono ?_
  rintro e w2 ⟨s, rfl, hs, H2⟩
  have hlt2 := H2.out.lt
  have hP := st_of (P := fun s => s.size ≤ 2) (b := w2.heap.size) (n := 5) (cap := 5) (H2.out.alloc (.cells #[.string ⟨#[97]⟩, .string ⟨#[98]⟩, .string ⟨#[120, 48]⟩, .string ⟨#[99]⟩, .string ⟨#[49]⟩] 9)) (by omega) (by omega) (by omega) (by omega) (by
    refine textRow_new w2 _ _ ?_
    (repeat (first | exact trivial | (refine ⟨⟨_, rfl, ?_⟩, ?_⟩; · first | assumption | decide | (simp only [ByteArray.size]; decide)))))
  go_wp2_with fail
  refine hP.mono ?_
  rintro e w3 ⟨x, rfl, hx, H3⟩
  have hB3 : Below w.heap.size w w3 := hB1.trans_grown H3.out.grow hrb hB1.size
  go_wp2
  exact bodyPost_ret (v := .tuple #[.string s, .string x]) (by simp [results, Try.results16, go_sem]) rfl ⟨s, x, rfl, hs, hx, hB3⟩
end Go.Proofs.Ytoihkjnfklogpaa
