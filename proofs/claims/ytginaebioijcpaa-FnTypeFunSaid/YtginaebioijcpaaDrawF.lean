/- The drawing of forms. -/
import Derived.Test.YtginaebioijcpaaDraw
namespace Go.Proofs.Ytginaebioijcpaa
open Go.RowKit

/-- What a drawing of a text of at most N bytes hands back, if it asks at most K times. -/
def DR (N K : Nat) (w : World) (rb p : Nat) (e : Ending) (w' : World) : Prop :=
  ∃ s p', e = .returned (.string s) ∧ s.size ≤ N ∧ Rd w' rb p' ∧ p' ≤ p + K ∧ w.grownBy w' (some rb)

theorem grownBy_alloc {w w1 : World} {row : Option Nat} (h : w.grownBy w1 row) (o : Obj) : w.grownBy (w1.alloc o) row :=
  grownBy_trans h (grownBy_below ((Below.refl _ _).alloc (Nat.le_refl _) o))

/-- All of them are texts that P holds of. -/
def AllTexts (P : ByteArray → Prop) : List Value → Prop
  | [] => True
  | v :: vs => (∃ s, v = .string s ∧ P s) ∧ AllTexts P vs

theorem AllTexts.at {P : ByteArray → Prop} : ∀ (vs : List Value), AllTexts P vs → ∀ i, i < vs.length → ∃ s, P s ∧ vs[i]? = some (.string s)
  | [], _, i, hi => by simp at hi
  | v :: vs, ⟨⟨s, hv, hs⟩, h⟩, i, hi => by
    cases i with
    | zero => exact ⟨s, hs, by simp [hv]⟩
    | succ i => simpa using AllTexts.at vs h i (by simpa using hi)

theorem textRow_new {P : ByteArray → Prop} (w : World) (vs : List Value) (ty : TypeId) (h : AllTexts P vs) : TextRow P (w.alloc (.cells vs.toArray ty)) w.heap.size vs.length := by
  intro i hi
  obtain ⟨s, hs, hv⟩ := h.at vs i hi
  refine ⟨s, hs, ?_⟩
  simp only [World.cell?, heap_alloc_new]
  simpa using hv

theorem size1 (c : UInt8) : (ByteArray.mk #[c]).size = 1 := rfl

set_option maxRecDepth 100000 in
set_option maxHeartbeats 800000 in
theorem l91Atom_any (w : World) (rb p : Nat) (h : Rd w rb p) (hp : p ≤ 1000000) :
    Calls Try.prog 74 #[.pointer (some ⟨rb, 0, none⟩)] w (DR 3 1 w rb p) := by
  have hlt := h.lt
  go_enter Try.func74, Try.ntmps74
  go_wp2_with fail
  refine (of_any (fun s => s.size ≤ 3) _ rb p w.heap.size 12 12 (h.alloc _) (by omega) (by omega) (by omega) (by omega) ?_).mono ?_
  · refine textRow_new w _ _ ?_
    (repeat (first | exact trivial | (refine ⟨⟨_, rfl, ?_⟩, ?_⟩; · first | assumption | decide | (simp only [ByteArray.size]; decide))))
  · rintro e w1 ⟨s, rfl, hs, hrd, hg⟩
    go_wp2
    go_ret
    exact ⟨s, _, rfl, hs, hrd, by omega, grownBy_trans (grownBy_alloc (grownBy_refl _ _) _) hg⟩

/-- How long a form of a depth may be; how often its drawing asks. -/
def sizeF : Nat → Nat
  | 0 => 3
  | d + 1 => 3 * sizeF d + 5
def picksF : Nat → Nat
  | 0 => 1
  | d + 1 => 3 * picksF d + 3

theorem sizeF_le (d : Nat) (h : d ≤ 5) : sizeF d ≤ 1400 := by
  have : d = 0 ∨ d = 1 ∨ d = 2 ∨ d = 3 ∨ d = 4 ∨ d = 5 := by omega
  rcases this with rfl | rfl | rfl | rfl | rfl | rfl <;> decide

set_option maxRecDepth 100000 in
set_option maxHeartbeats 1600000 in
theorem l91Form_any (d : Nat) : ∀ (w : World) (rb p : Nat), d ≤ 5 → Rd w rb p → p + picksF d ≤ 1000000 →
    Calls Try.prog 75 #[.pointer (some ⟨rb, 0, none⟩), .int .i64 d] w (DR (sizeF d) (picksF d) w rb p) := by
  induction d with
  | zero =>
    intro w rb p hd h hp
    have hA := Lib.hid (l91Atom_any w rb p h (by omega))
    go_enter Try.func75, Try.ntmps75
    go_wp2_with fail
    refine hA.out.mono ?_
    rintro e w1 ⟨s, p', rfl, hs, hrd, hp', hg⟩
    go_wp2
    go_ret
    exact ⟨s, p', rfl, hs, hrd, hp', hg⟩
  | succ d ih =>
    intro w rb p hd h hp
    simp only [picksF, sizeF] at hp ⊢
    have hdb : (((d + 1 : Nat) : Int) == 0) = false := by simp; omega
    have IH := Lib.hid ih
    clear ih
    go_enter Try.func75, Try.ntmps75
    go_wp2_with fail
    refine (pick_any w rb p 3 h (by omega) (by omega) (by omega)).mono ?_
    rintro e w1 ⟨z, rfl, hz0, hz1, hrd, hg⟩
    by_cases hz : z = 0
    · subst hz
      go_wp2_with fail
      refine (l91Atom_any w1 rb _ hrd (by omega)).mono ?_
      rintro e w2 ⟨s, p', rfl, hs, hrd, hp', hg2⟩
      go_wp2
      go_ret
      exact ⟨s, p', rfl, by omega, hrd, by omega, grownBy_trans hg hg2⟩
    · have hzb : (z == 0) = false := by simpa using hz
      go_wp2_with fail
      refine (pick_any w1 rb _ 3 hrd (by omega) (by omega) (by omega)).mono ?_
      rintro e w2 ⟨z2, rfl, hz20, hz21, hrd, hg2⟩
      obtain ⟨n, rfl⟩ := Int.eq_ofNat_of_zero_le hz20
      have hg12 := grownBy_trans hg hg2
      clear hg hg2 hz0 hz1 hz20
      have hn : n ≤ 2 := by omega
      go_wp2
      go_loopw [5, 7] (fun sv iv wr => ∃ (k : Nat) (s : ByteArray) (q : Nat), k ≤ n + 1 ∧ iv = .int .i64 k ∧ sv = .string s ∧ s.size ≤ 1 + k * (sizeF d + 1) ∧ Rd wr rb q ∧ q ≤ p + 2 + k * picksF d ∧ w.grownBy wr (some rb)) (fun _ iv _ => n + 1 - (intOf iv).toNat)
      case atStart => exact ⟨0, _, _, Nat.zero_le _, rfl, rfl, by rw [Nat.zero_mul]; decide, hrd, by omega, hg12⟩
      case round =>
        obtain ⟨k, s, q, hk, rfl, rfl, hs, hrq, hq, hgr⟩ := hrel
        have hsf := sizeF_le d (by omega)
        have hm1 : (k + 1) * (sizeF d + 1) = k * (sizeF d + 1) + (sizeF d + 1) := Nat.succ_mul _ _
        have hm2 : (k + 1) * picksF d = k * picksF d + picksF d := Nat.succ_mul _ _
        have hm3 : k * picksF d ≤ 3 * picksF d := Nat.mul_le_mul_right _ (by omega)
        have hm4 : k * (sizeF d + 1) ≤ 3 * (sizeF d + 1) := Nat.mul_le_mul_right _ (by omega)
        by_cases hlt : k < n + 1
        · have hm5 : (k + 1) * picksF d ≤ 3 * picksF d := Nat.mul_le_mul_right _ (by omega)
          have hF := IH.out wr rb q (by omega) hrq (by omega)
          have hsz : s.size ≤ 5000 := by omega
          by_cases hk0 : k = 0
          · subst hk0
            go_wp2_with fail
            refine hF.mono ?_
            rintro e w3 ⟨s2, q2, rfl, hs2, hrd3, hq2, hg3⟩
            go_wp2
            go_roundw
            case rel => exact ⟨1, _, _, by omega, rfl, rfl, by simp only [ByteArray.size_append]; omega, hrd3, by omega, grownBy_trans hgr hg3⟩
            case measure => simp [intOf]
          · go_wp2_with fail
            refine hF.mono ?_
            rintro e w3 ⟨s2, q2, rfl, hs2, hrd3, hq2, hg3⟩
            go_wp2
            go_roundw
            case rel => exact ⟨k + 1, _, _, by omega, by go_num, rfl, by simp only [ByteArray.size_append, size1]; omega, hrd3, by omega, grownBy_trans hgr hg3⟩
            case measure => simp [intOf]; omega
        · go_wp2
          go_ret
          exact ⟨_, _, rfl, by simp only [ByteArray.size_append, size1]; omega, hrq, by omega, hgr⟩

theorem half (m S : Nat) : m * S = m / 2 * (S + S) + m % 2 * S := by
  have h : m = 2 * (m / 2) + m % 2 := by omega
  have e : m / 2 * (S + S) + m % 2 * S = (2 * (m / 2) + m % 2) * S := by
    rw [Nat.add_mul, Nat.mul_comm 2 (m / 2), Nat.mul_assoc, Nat.two_mul]
  rw [e, ← h]

set_option maxRecDepth 100000 in
set_option maxHeartbeats 800000 in
/-- A text n times. -/
theorem l6Many_any (s : ByteArray) (n : Nat) (w : World) (hn : n * s.size ≤ 100000) (hn2 : n ≤ 100000) :
    Calls Try.prog 105 #[.string s, .int .i64 n] w fun e w' => (∃ r, e = .returned (.string r) ∧ r.size = n * s.size) ∧ w = w' := by
  generalize hT : n * s.size = T at *
  go_enter Try.func105, Try.ntmps105
  go_wp2
  go_loop [0, 1, 5] (fun sv nv rv => ∃ (t : ByteArray) (m : Nat) (r : ByteArray), sv = .string t ∧ nv = .int .i64 m ∧ rv = .string r ∧ m ≤ n ∧ m * t.size + r.size = T) (fun _ nv _ => (intOf nv).toNat)
  case atStart => exact ⟨s, n, _, rfl, rfl, rfl, Nat.le_refl _, by rw [hT]; rfl⟩
  case round =>
    obtain ⟨t, m, r, rfl, rfl, rfl, hm, hr⟩ := hrel
    have hh := half m t.size
    by_cases hm0 : m = 0
    · subst hm0
      go_wp2
      go_ret
      exact ⟨⟨r, rfl, by omega⟩, rfl⟩
    · have h1 : t.size ≤ m * t.size := Nat.le_mul_of_pos_left _ (by omega)
      have h2 : t.size ≤ 100000 := by omega
      have h3 : r.size ≤ 100000 := by omega
      by_cases ho : m % 2 = 1
      · have hob : ((m : Int).tmod 2 == 1) = true := by rw [Int.tmod_eq_emod_of_nonneg (by omega)]; simp; omega
        go_wp2
        go_round
        case rel => exact ⟨_, m / 2, _, rfl, by first | rfl | (congr 1; omega), rfl, by omega, by simp only [ByteArray.size_append]; rw [ho] at hh; omega⟩
        case measure => simp [intOf]; omega
      · have hob : ((m : Int).tmod 2 == 1) = false := by rw [Int.tmod_eq_emod_of_nonneg (by omega)]; simp; omega
        go_wp2
        go_round
        case rel => exact ⟨_, m / 2, _, rfl, by first | rfl | (congr 1; omega), rfl, by omega, by simp only [ByteArray.size_append]; rw [show m % 2 = 0 by omega] at hh; omega⟩
        case measure => simp [intOf]; omega

set_option maxRecDepth 100000 in
set_option maxHeartbeats 1600000 in
theorem l91Text_any (w : World) (rb p : Nat) (h : Rd w rb p) (hp : p ≤ 1000) :
    Calls Try.prog 61 #[.pointer (some ⟨rb, 0, none⟩)] w (DR 1000 1000 w rb p) := by
  have HF := Lib.hid (l91Form_any 3 w rb p (by omega) h (by simp [picksF]; omega))
  clear h
  simp only [sizeF, picksF] at HF
  go_enter Try.func61, Try.ntmps61
  go_wp2_with fail
  refine HF.out.mono ?_
  rintro e w1 ⟨s, p1, rfl, hs, hrd, hp1, hg⟩
  go_wp2_with fail
  refine (pick_any w1 rb p1 20 hrd (by omega) (by omega) (by omega)).mono ?_
  rintro e w2 ⟨z, rfl, hz0, hz1, hrd, hg2⟩
  have hg12 := grownBy_trans hg hg2
  have hsz : s.size ≤ 500 := by omega
  have hlt := hrd.lt
  by_cases h0 : z = 0
  · subst h0
    go_wp2_with fail
    refine (of_any (fun s => s.size ≤ 10) _ rb _ w2.heap.size 5 5 (hrd.alloc _) (by omega) (by omega) (by omega) (by omega) ?_).mono ?_
    · refine textRow_new w2 _ _ ?_
      (repeat (first | exact trivial | (refine ⟨⟨_, rfl, ?_⟩, ?_⟩; · first | assumption | decide | (simp only [ByteArray.size]; decide))))
    · rintro e w3 ⟨s2, rfl, hs2, hrd, hg3⟩
      go_wp2
      go_ret
      exact ⟨_, _, rfl, by rw [ByteArray.size_append]; omega, hrd, by omega, grownBy_trans (grownBy_alloc hg12 _) hg3⟩
  by_cases h1 : z = 1
  · subst h1
    go_wp2_with fail
    refine (of_any (fun s => s.size ≤ 10) _ rb _ w2.heap.size 7 7 (hrd.alloc _) (by omega) (by omega) (by omega) (by omega) ?_).mono ?_
    · refine textRow_new w2 _ _ ?_
      (repeat (first | exact trivial | (refine ⟨⟨_, rfl, ?_⟩, ?_⟩; · first | assumption | decide | (simp only [ByteArray.size]; decide))))
    · rintro e w3 ⟨s2, rfl, hs2, hrd, hg3⟩
      go_wp2
      go_ret
      exact ⟨_, _, rfl, by omega, hrd, by omega, grownBy_trans (grownBy_alloc hg12 _) hg3⟩
  by_cases h2 : z = 2
  · subst h2
    go_wp2_with fail
    refine (l6Many_any ⟨#[40]⟩ 60 w2 (by decide) (by decide)).mono ?_
    rintro e w3 ⟨⟨r1, rfl, hr1⟩, rfl⟩
    rw [size1] at hr1
    go_wp2_with fail
    refine (pick_any w2 rb _ 2 hrd (by omega) (by omega) (by omega)).mono ?_
    rintro e w4 ⟨z4, rfl, hz40, hz41, hrd, hg4⟩
    obtain ⟨k, rfl⟩ := Int.eq_ofNat_of_zero_le hz40
    go_wp2_with fail
    have hM := l6Many_any ⟨#[41]⟩ (60 + k) w4 (by rw [size1]; omega) (by omega)
    rw [show ((60 + k : Nat) : Int) = 60 + (k : Int) by omega] at hM
    refine hM.mono ?_
    rintro e w5 ⟨⟨r2, rfl, hr2⟩, rfl⟩
    rw [size1] at hr2
    have hz1 : r1.size ≤ 100 := by omega
    have hz2 : r2.size ≤ 100 := by omega
    go_wp2
    go_ret
    exact ⟨_, _, rfl, by simp only [ByteArray.size_append, size1]; omega, hrd, by omega, grownBy_trans hg12 hg4⟩
  have hb0 : (z == 0) = false := by simpa using h0
  have hb1 : (z == 1) = false := by simpa using h1
  have hb2 : (z == 2) = false := by simpa using h2
  go_wp2
  go_ret
  exact ⟨_, _, rfl, by omega, hrd, by omega, hg12⟩

/-- What a drawing of one text out of a code hands back. -/
def DrawnR (N : Nat) (w : World) (e : Ending) (w' : World) : Prop := ∃ s, e = .returned (.string s) ∧ s.size ≤ N ∧ Below w.heap.size w w'





theorem drawFormAtoms_any (w : World) (a : Option Addr) (len cap : Nat) (h : Code w a len cap) :
    Calls Try.prog 26 #[.slice a len cap] w (DrawnR 1000 w) := by
  have H := Lib.hid (l6Open_any w a len cap h)
  clear h
  go_enter Try.func26, Try.ntmps26
  go_wp2_with fail
  refine H.out.mono ?_
  rintro e w1 ⟨rb, rfl, hrb, hrd, hB1⟩
  go_wp2_with fail
  refine (l91Text_any w1 rb 0 hrd (by omega)).mono ?_
  rintro e w2 ⟨s, p', rfl, hs, hrd, hp', hg⟩
  have hB2 : Below w.heap.size w w2 := hB1.trans_grown hg hrb hB1.size
  go_wp2
  go_ret
  exact ⟨s, rfl, hs, hB2⟩
end Go.Proofs.Ytginaebioijcpaa
