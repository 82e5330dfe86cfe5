/- A form put for v: of the reference. -/
import Derived.Test.YtcobcmgmleblkaaPutP
import Derived.Test.YtcobcmgmleblkaaReplF
import Derived.Test.YtcobcmgmleblkaaSTarget
import Derived.Test.YtcobcmgmleblkaaBackR
import Derived.Test.YtcobcmgmleblkaaName
import Derived.Test.YtcobcmgmleblkaaForm
import Derived.Test.YtcobcmgmleblkaaText
namespace Go.Proofs.Ytcobcmgmleblkaa
open Go.RowKit

/-- An unknown type, as the reference tells it of any text. -/
def unkR (l : List UInt8) : Bool := decide (2 ≤ l.length) && decide (l.head? = some 97) && ((numP (bts l.tail)).2 && decide (0 ≤ (numP (bts l.tail)).1))
theorem unkR_na (l : List UInt8) (h : (97 : UInt8) ∉ l) : unkR l = false := by
  unfold unkR
  rw [decide_eq_false (p := l.head? = some 97)]
  · simp
  · intro hc
    cases l with
    | nil => cases hc
    | cons a l => cases hc; exact h List.mem_cons_self

set_option maxRecDepth 100000 in
set_option maxHeartbeats 1600000 in
theorem l6tUnknown_any (s : ByteArray) (w : World) (hs : s.size ≤ 1000000000) : Calls Try.prog 69 #[.string s] w fun e w' => e = .returned (.bool (unkR s.data.toList)) ∧ w = w' := by
  by_cases h2 : s.size < 2
  · have HU : Hid (unkR s.data.toList = false) := by show _ = _; unfold unkR; rw [← Lib.size_eq, decide_eq_false (by omega)]; rfl
    go_enter Try.func69, Try.ntmps69
    go_wp2
    go_ret
    exact ⟨ret_bool HU.out.symm, rfl⟩
  · have h0 : 0 < s.size := by omega
    have hh := head_get s h0
    by_cases h97 : s.data.toList.head? = some 97
    · have hx : (s.extract 1 s.size) = bts s.data.toList.tail := by
        apply bts_eq
        rw [Lib.extract_to_end]
        cases s.data.toList <;> rfl
      have HU : Hid (unkR s.data.toList = ((numP (s.extract 1 s.size)).2 && decide (0 ≤ (numP (s.extract 1 s.size)).1))) := by
        show _ = _; unfold unkR; rw [← Lib.size_eq, decide_eq_true (show 2 ≤ s.size by omega), decide_eq_true h97, hx]; rfl
      have HC := Lib.hid (fun W => l2Number_any (s.extract 1 s.size) W (by rw [Lib.size_eq, Lib.extract_to_end, List.length_drop, ← Lib.size_eq]; omega))
      rw [h97] at hh
      have hb : ((s[0].toNat : Int) != 97) = false := by rw [← Option.some.inj hh]; rfl
      clear hh hx h97
      generalize (numP (s.extract 1 s.size)).1 = z at HU HC
      generalize (numP (s.extract 1 s.size)).2 = b at HU HC
      cases b
      · go_enter Try.func69, Try.ntmps69
        go_wp2_with fail
        refine (HC.out _).mono ?_
        rintro e w' ⟨rfl, rfl⟩
        go_wp2
        go_ret
        exact ⟨ret_bool (by rw [HU.out]; rfl), rfl⟩
      · go_enter Try.func69, Try.ntmps69
        go_wp2_with fail
        refine (HC.out _).mono ?_
        rintro e w' ⟨rfl, rfl⟩
        go_wp2
        go_ret
        exact ⟨ret_bool (by rw [HU.out, Bool.true_and]), rfl⟩
    · have HU : Hid (unkR s.data.toList = false) := by show _ = _; unfold unkR; rw [decide_eq_false h97]; simp
      have hb : ((s[0].toNat : Int) != 97) = true := by
        have : s[0] ≠ 97 := fun h => h97 (by rw [hh, h])
        have h3 : s[0].toNat ≠ 97 := fun h => this (UInt8.toNat_inj.1 h)
        simp only [bne_iff_ne, ne_eq]
        omega
      clear hh h97
      go_enter Try.func69, Try.ntmps69
      go_wp2
      go_ret
      exact ⟨ret_bool HU.out.symm, rfl⟩

theorem Tree.holesL_take (ps : List Tree) (k : Nat) (p : Tree) (h : ps[k]? = some p) : Tree.holesL (ps.take (k + 1)) = Tree.holesL (ps.take k) + p.holes := by
  induction ps generalizing k with
  | nil => simp at h
  | cons q ps ih =>
    cases k with
    | zero => simp at h; subst h; simp [Tree.holesL]
    | succ k =>
      simp at h
      have := ih k h
      simp only [List.take_succ_cons, Tree.holesL, this]
      omega
theorem Tree.holesL_take_le (ps : List Tree) (k : Nat) : Tree.holesL (ps.take k) ≤ Tree.holesL ps := by
  induction ps generalizing k with
  | nil => simp
  | cons q ps ih => cases k with
    | zero => simp [Tree.holesL]
    | succ k => have := ih k; simp only [List.take_succ_cons, Tree.holesL]; omega

set_option maxRecDepth 100000 in
set_option maxHeartbeats 1600000 in
theorem l6tHoles_any (n : Nat) : ∀ (t : Tree) (A : Nat → Prop) (v : Value) (w : World), t.sz ≤ n → Rep w A t v → t.sz ≤ 1000000000 → t.good = true →
    Calls Try.prog 81 #[v] w fun e w' => e = .returned (.int .i64 t.holes) ∧ Below w.heap.size w w' := by
  induction n with
  | zero => intro t A v w h; cases t; simp [Tree.sz] at h
  | succ n ih =>
    intro t A v w hn hr hb hgood
    have HHD := Lib.hid (fun W v hr => head4_any t A v W hr hgood)
    have HR := Lib.hid hr
    obtain ⟨s, ps⟩ := t
    simp only [Rep] at hr
    obtain ⟨o, l, c, rfl, hs, hcap⟩ := hr
    obtain rfl := hs.len
    obtain ⟨hgl, hge⟩ := Tree.good_parts hgood
    have hB0 : Below w.heap.size w (w.alloc (.cells #[.string s, .slice o ps.length c] 46)) := (Below.refl _ _).alloc (Nat.le_refl _) _
    cases ps with
    | nil =>
      have hemp : s.toList.isEmpty = false := by rw [Lib.toList_data]; simpa using hge.1 rfl
      have hemp2 : (s.toList == []) = false := by rw [Lib.toList_data]; simpa using hge.1 rfl
      clear hge hgl HHD HR ih hgood
      by_cases hv : s.data.toList = [118]
      · have hvb : (s.toList == [118]) = true := by rw [Lib.toList_data, hv]; rfl
        have HT : Hid ((Tree.node s []).holes = 1) := by show _ = _; simp [Tree.holes, hv]
        clear hv
        go_enter Try.func81, Try.ntmps81
        go_wp2
        go_ret
        exact ⟨by rw [HT.out]; rfl, hB0⟩
      · have hvb : (s.toList == [118]) = false := by rw [Lib.toList_data]; simpa using hv
        have HT : Hid ((Tree.node s []).holes = 0) := by show _ = _; simp [Tree.holes, hv]
        clear hv
        go_enter Try.func81, Try.ntmps81
        go_wp2
        go_ret
        exact ⟨by rw [HT.out]; rfl, hB0⟩
    | cons p ps =>
      have hse : s.data.toList = [] := Classical.byContradiction fun h => absurd (hge.2 h) (by simp)
      have hemp : s.toList.isEmpty = true := by rw [Lib.toList_data, hse]; rfl
      have hemp2 : (s.toList == []) = true := by rw [Lib.toList_data, hse]; rfl
      have hvb : (s.toList == [118]) = false := by rw [Lib.toList_data, hse]; rfl
      have hhd : (Tree.node s (p :: ps)).hd = p.atom := rfl
      have HR1 := Lib.hid (Rep.keep (Keeps.alloc _ w (.cells #[.string s, .slice o (p :: ps).length c] 46)) _ _ HR.out)
      rw [hhd] at HHD
      clear hse hge hgood hhd
      by_cases he : p.atom.data.toList = [101]
      · have heb : (p.atom.toList == [101]) = true := by rw [Lib.toList_data, he]; rfl
        have HT : Hid ((Tree.node s (p :: ps)).holes = 0) := by show _ = _; simp [Tree.holes, he]
        clear he ih
        go_enter Try.func81, Try.ntmps81
        go_wp2_with fail
        refine (HHD.out _ _ HR1.out).mono ?_
        rintro e w1 ⟨rfl, hb1⟩
        go_wp2
        go_ret
        exact ⟨by rw [HT.out]; rfl, hB0.trans (hb1.mono hB0.size)⟩
      · have heb : (p.atom.toList == [101]) = false := by rw [Lib.toList_data]; simpa using he
        have hsz : (Tree.node s (p :: ps)).holes = Tree.holesL (p :: ps) := by simp [Tree.holes, Tree.holesL, he]
        clear he
        generalize p :: ps = qs at *
        have HS := Lib.hid hsz
        have HG := Lib.hid hgl
        have hb1 := holesL_le qs
        have hb2 := Tree.length_le_szL qs
        simp only [Tree.sz] at hb hn
        clear hsz hgl
        go_enter Try.func81, Try.ntmps81
        go_wp2_with fail
        refine (HHD.out _ _ HR1.out).mono ?_
        rintro e w1 ⟨rfl, hbh⟩
        have hb01 : Below (w.heap.size + 1) (w.alloc (.cells #[.string s, .slice o qs.length c] 46)) w1 := by simpa using hbh
        clear hbh
        have hz1 := hb01.size
        simp only [World.size_alloc] at hz1
        have c0 : w1.cell? ⟨w.heap.size, 0, none⟩ = some (.string s) := (hb01.cell (p := ⟨w.heap.size, 0, none⟩) (by simp)).trans (two_new _ _ _ _).1
        have c1 : w1.cell? ⟨w.heap.size, 1, none⟩ = some (.slice o qs.length c) := (hb01.cell (p := ⟨w.heap.size, 1, none⟩) (by simp)).trans (two_new _ _ _ _).2
        go_wp2
        go_loopw [3, 4] (fun m i wr => ∃ k : Nat, k ≤ qs.length ∧ i = .int .i64 k ∧ m = .int .i64 ((Tree.holesL (qs.take k) : Nat)) ∧ Below (w.heap.size + 1) (w.alloc (.cells #[.string s, .slice o qs.length c] 46)) wr) (fun _ i _ => qs.length - (intOf i).toNat)
        case atStart => exact ⟨0, Nat.zero_le _, rfl, by simp [Tree.holesL], hb01⟩
        case round =>
          obtain ⟨k, hk, rfl, rfl, hbr⟩ := hrel
          clear c0 c1
          have hB : Below w.heap.size w wr := hB0.trans (hbr.mono (by omega))
          have c0 : wr.cell? ⟨w.heap.size, 0, none⟩ = some (.string s) := (hbr.cell (p := ⟨w.heap.size, 0, none⟩) (by simp)).trans (two_new _ _ _ _).1
          have c1 : wr.cell? ⟨w.heap.size, 1, none⟩ = some (.slice o qs.length c) := (hbr.cell (p := ⟨w.heap.size, 1, none⟩) (by simp)).trans (two_new _ _ _ _).2
          by_cases hlt : k < qs.length
          · obtain ⟨p, hp⟩ : ∃ p, qs[k]? = some p := ⟨qs[k], by simp [hlt]⟩
            obtain ⟨b, off, o', n', c', rfl, -, hx, hy, hrp⟩ := (RepS.keep (Keeps.below hB) _ _ _ hs).partAt hp
            have h1 := Tree.holesL_take qs k p hp
            have h3 : p.sz ≤ n := by have := Tree.sz_part qs k p hp; omega
            have h4 : p.sz ≤ 1000000000 := by have := Tree.sz_part qs k p hp; omega
            have h5 := holes_le p
            have h6 := Tree.good_part qs k p hp HG.out
            have HG6 := Lib.hid h6
            have h2 := show Tree.holesL (qs.take k) + p.holes ≤ Tree.szL qs from by rw [← h1]; exact Nat.le_trans (Tree.holesL_take_le qs (k + 1)) hb1
            have HT := Lib.hid h1
            clear h1 h6
            clear hp
            go_wp2_with (go_at_call 81; refine (ih _ A _ _ h3 hrp (by omega) HG6.out).mono ?_; rintro e w1 ⟨rfl, hb2⟩)
            go_roundw
            case rel => exact ⟨k + 1, by omega, by go_num, by rw [HT.out]; go_num, hbr.trans (hb2.mono (by have := hbr.size; simp at this; omega))⟩
            case measure => simp [intOf]; omega
          · go_wp2
            go_ret
            obtain rfl : k = qs.length := by omega
            exact ⟨by rw [HS.out]; simp, hB⟩
end Go.Proofs.Ytcobcmgmleblkaa
